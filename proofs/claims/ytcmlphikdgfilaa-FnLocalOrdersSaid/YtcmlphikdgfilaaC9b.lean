/- The contracts of SwapGain in both programs. -/
import Derived.Test.YtcmlphikdgfilaaC9a
namespace Go.Proofs.Ytcmlphikdgfilaa
open Go.RowKit
set_option maxHeartbeats 1000000 in
theorem l9Swap_any (A : Option Addr) (n c : Nat) (o : List Int) (k : Nat) (w : World) (h : Sl ci 1 w A n o) (hn : n ≤ 1048576) (hk : k + 1 < n) :
    Calls Try.prog 71 #[.slice A n c, .int .i64 k] w (NewRes ci 1 3 (swapL o k) (fun v => v) w) := by
  have bn := h.le
  have HL := Lib.hid h.1
  obtain ⟨b1, o1, x, rfl, ex, x1⟩ := h.int (i := k) (by omega)
  obtain ⟨b2, o2, y, hA2, ey, y1⟩ := h.int (i := k + 1) (by omega)
  injection hA2 with hA2; injection hA2 with hA2 hA2'; subst hA2 hA2'
  have hblk := World.block_lt_of_cell? _ _ (x1 _ (Bl.refl _))
  simp only at hblk
  have HS := Lib.hid (swapL_eq ex ey)
  have H1 := Lib.hid (l1Own_any (some ⟨b1, o1, none⟩) n c o w h hn)
  have HX := Lib.hid (int_set ex y)
  have HY := Lib.hid (int_set (l := o.set k y) (i := k + 1) (x := y) (by rw [List.getElem?_set_ne (by omega)]; exact ey) x)
  have k1 : (0 : Int) ≤ (k : Int) + 1 := by omega
  have k2 : (k : Int) + 1 < (n : Int) := by omega
  have k3 : ((k : Int) + 1).toNat = k + 1 := by omega
  have k4 : k < n := by omega
  clear ex ey
  go_enter Try.func71, Try.ntmps71
  go_wp2_with fail
  refine H1.out.mono ?_
  rintro e w2 ⟨B, m, d, rfl, ho, hl, hm, hb⟩
  have hmn : m = n := by rw [← hl]; exact HL.out
  have HMN := Lib.hid hmn
  rcases own_forms ho with ⟨rfl, h0, _, _⟩ | ⟨g, rfl⟩
  · omega
  obtain ⟨hgl, hgu⟩ := (own_lt ho).out g rfl
  have ng1 : ¬ b1 = g := by omega
  have ng2 : ¬ g = b1 := by omega
  have fz := World.ownsRow.frozenAt ho
  obtain ⟨v0, y0⟩ := own_some ho (j := k) (by omega)
  obtain ⟨v1, y2⟩ := own_some ho (j := k + 1) (by omega)
  have g1 := x1 _ hb
  have g2 := y1 _ hb
  have k5 : k < m := by omega
  have k6 : k + 1 < m := by omega
  have k7 : (k : Int) + 1 < (m : Int) := by omega
  clear x1 y1 hmn hl
  go_wp2_with fail
  go_ret
  refine NewRes.of_own (F := fun v => v) ?_ (by rw [swapL_len, HL.out, HMN.out]) hm ?_
  · rw [HS.out, ← HY.out, ← HX.out]
    repeat (first | (with_reducible exact ho) | (with_reducible refine World.ownsRow.drew ?_) | (with_reducible refine own_set ?_ _ _))
  · repeat (first | (with_reducible exact hb) | (with_reducible apply Bl.drew) | (with_reducible refine Bl.setCell ?_ (by first | exact hgl | (simp; omega)) _))
set_option maxHeartbeats 1000000 in
theorem l9Gain_any (A : Option Addr) (n c : Nat) (l : List Arrival) (high : Bool) (mi : Int) (B : Option Addr) (m d : Nat) (o : List Int) (k : Nat) (w : World) (h : Sl Arrival.cs 4 w A n l) (ho : Sl ci 1 w B m o) (hok : implOrd l o = true) (m0 : 1 ≤ mi) (m1 : mi ≤ 60) (hk : k + 1 < m) :
    Calls Try.prog 67 #[.slice A n c, .bool high, .int .i64 mi, .slice B m d, .int .i64 k] w fun e w' => e = .returned (.tuple #[.int .i64 (gainR l high mi o k).1, .bool (gainR l high mi o k).2]) ∧ Bl w w' := by
  have HL := Lib.hid h.1
  have HM := Lib.hid ho.1
  obtain ⟨hokl, hlen, hr⟩ := ord_parts hok
  have hl6 := arr_len hokl
  rw [HM.out, HL.out] at hlen
  rw [HL.out] at hr hl6
  have hm6 : m ≤ 6 := by omega
  have HLN := Lib.hid hlen
  have HAV := Lib.hid (fun (i : Nat) (a : Arrival) (ha : l[i]? = some a) => (show 0 ≤ a.Minute ∧ a.Minute ≤ 9999 ∧ 0 ≤ a.Weight ∧ a.Weight ≤ 9 by have := arr_bd hokl ha; omega))
  obtain ⟨a0, a1⟩ := delay_bd (high := high) hok m0 m1
  have H1 := Lib.hid (l9Swap_any B m d o k w ho (by omega) hk)
  have HSL := Lib.hid (swapL_len o k)
  have H3 := Lib.hid (fun w h ho => l8Delay_any A n c l high mi B m d o w h ho hr HAV.out m0 m1 (by omega))
  clear hokl hlen hr
  go_enter Try.func67, Try.ntmps67
  go_wp2_with fail
  refine H1.out.mono ?_
  rintro e w2 ⟨C, m4, c4, rfl, ho4, hl4, hm4, hb⟩
  have hm4' : m4 = m := by rw [← hl4, HSL.out]; exact HM.out
  subst hm4'
  have hcap := own_cap ho4
  have hs4 := Sl.of_own ci_len ho4 hl4 (by omega)
  clear ho4 hl4
  go_wp2_with fail
  refine (l8Order_any A n c l C m4 c4 (swapL o k) w2 (h.bl hb) hs4 hcap).mono ?_
  rintro e w3 ⟨rfl, hb3⟩
  have hb := hb.trans hb3
  cases h2 : implOrd l (swapL o k)
  · have HR := Lib.hid (show gainR l high mi o k = (0, false) by simp [gainR, h2])
    simp only [h2]
    go_wp2_with fail
    go_ret2
    exact ⟨by rw [HR.out]; rfl, hb⟩
  have HR := Lib.hid (show gainR l high mi o k = (delayZ l high mi o - delayZ l high mi (swapL o k), true) by simp [gainR, h2])
  obtain ⟨_, _, hr2⟩ := ord_parts h2
  rw [HL.out] at hr2
  obtain ⟨z0, z1⟩ := delay_bd (high := high) h2 m0 m1
  have H4 := Lib.hid (fun w h ho => l8Delay_any A n c l high mi C m4 c4 (swapL o k) w h ho hr2 HAV.out m0 m1 (by omega))
  generalize delayZ l high mi o = za at *
  generalize delayZ l high mi (swapL o k) = zb at *
  clear hr2
  simp only [h2]
  go_wp2_with fail
  refine (H3.out _ (h.bl hb) (ho.bl hb)).mono ?_
  rintro e w4 ⟨rfl, hb4⟩
  go_wp2_with fail
  refine (H4.out _ (h.bl (hb.trans hb4)) (hs4.bl (hb3.trans hb4))).mono ?_
  rintro e w5 ⟨rfl, hb5⟩
  go_wp2_with fail
  go_ret2
  exact ⟨by rw [HR.out]; rfl, (hb.trans hb4).trans hb5⟩
/-- The order that an exchange leaves, a row of its own; only if it is one. -/
def SwRow (w w' : World) (v : Value) (m : Nat) (ok : Bool) (o : List Int) : Prop := ok = true → ∃ C c, v = .slice C m c ∧ w'.ownsRow w.heap.size 3 1 (.slice C m c) m (o.flatMap ci)
set_option maxHeartbeats 2000000 in
theorem swapGain_any (A : Option Addr) (n c : Nat) (l : List Arrival) (high : Bool) (mi : Int) (B : Option Addr) (m d : Nat) (o : List Int) (k : Nat) (w : World) (h : Sl Arrival.cs 4 w A n l) (ho : Sl ci 1 w B m o) (hok : implOrd l o = true) (m0 : 1 ≤ mi) (m1 : mi ≤ 60) (hk : k + 1 < m) :
    Calls Try.prog 69 #[.slice A n c, .bool high, .int .i64 mi, .slice B m d, .int .i64 k] w fun e w' => (∃ v, e = .returned (.tuple #[v, .int .i64 (gainR l high mi o k).1, .bool (gainR l high mi o k).2]) ∧ SwRow w w' v m (gainR l high mi o k).2 (swapL o k)) ∧ Bl w w' := by
  have HL := Lib.hid h.1
  have HM := Lib.hid ho.1
  obtain ⟨hokl, hlen, hr⟩ := ord_parts hok
  have hl6 := arr_len hokl
  rw [HM.out, HL.out] at hlen
  rw [HL.out] at hr hl6
  have hm6 : m ≤ 6 := by omega
  have HLN := Lib.hid hlen
  have HAV := Lib.hid (fun (i : Nat) (a : Arrival) (ha : l[i]? = some a) => (show 0 ≤ a.Minute ∧ a.Minute ≤ 9999 ∧ 0 ≤ a.Weight ∧ a.Weight ≤ 9 by have := arr_bd hokl ha; omega))
  obtain ⟨a0, a1⟩ := delay_bd (high := high) hok m0 m1
  have H3 := Lib.hid (fun w h ho => lockageDelay_any A n c l high mi B m d o w h ho hr HAV.out m0 m1 (by omega))
  clear hokl hlen hr
  obtain ⟨b1, o1, x, rfl, ex, x1⟩ := ho.int (i := k) (by omega)
  obtain ⟨b2, o2, y, hA2, ey, y1⟩ := ho.int (i := k + 1) (by omega)
  injection hA2 with hA2; injection hA2 with hA2 hA2'; subst hA2 hA2'
  have hblk := World.block_lt_of_cell? _ _ (x1 _ (Bl.refl _))
  simp only at hblk
  have HS := Lib.hid (swapL_eq ex ey)
  have H1 := Lib.hid (copyInts_any (some ⟨b1, o1, none⟩) m d o w ho (by omega))
  have HX := Lib.hid (int_set ex y)
  have HY := Lib.hid (int_set (l := o.set k y) (i := k + 1) (x := y) (by rw [List.getElem?_set_ne (by omega)]; exact ey) x)
  have HSL := Lib.hid (swapL_len o k)
  have k1 : (0 : Int) ≤ (k : Int) + 1 := by omega
  have k2 : (k : Int) + 1 < (m : Int) := by omega
  have k3 : ((k : Int) + 1).toNat = k + 1 := by omega
  have k4 : k < m := by omega
  clear ex ey
  go_enter Try.func69, Try.ntmps69
  go_wp2_with fail
  refine H1.out.mono ?_
  rintro e w2 ⟨C, m4, c4, rfl, ho4, hl4, hm4, hb⟩
  have hm4' : m4 = m := by rw [← hl4]; exact HM.out
  subst hm4'
  have hcap := own_cap ho4
  rcases own_forms ho4 with ⟨rfl, h0, _, _⟩ | ⟨g, rfl⟩
  · omega
  obtain ⟨hgl, hgu⟩ := (own_lt ho4).out g rfl
  have ng1 : ¬ b1 = g := by omega
  have ng2 : ¬ g = b1 := by omega
  have fz := World.ownsRow.frozenAt ho4
  obtain ⟨v0, y0⟩ := own_some ho4 (j := k) (by omega)
  obtain ⟨v1, y2⟩ := own_some ho4 (j := k + 1) (by omega)
  have g1 := x1 _ hb
  have g2 := y1 _ hb
  clear x1 y1 hl4
  go_wp2_with fail
  go_region
  all_goals
    go_wp2_with fail
    have hbW : Bl w (World.drew ((w2.setCell ⟨g, k, none⟩ (.int .i64 y)).setCell ⟨g, k + 1, none⟩ (.int .i64 x))) := ((hb.setCell (p := ⟨g, k, none⟩) hgl _).setCell (p := ⟨g, k + 1, none⟩) hgl _).drew
    have hown : World.ownsRow (World.drew ((w2.setCell ⟨g, k, none⟩ (.int .i64 y)).setCell ⟨g, k + 1, none⟩ (.int .i64 x))) w.heap.size 3 1 (.slice (some ⟨g, 0, none⟩) m4 c4) m4 ((swapL o k).flatMap ci) := by
      rw [HS.out, ← HY.out, ← HX.out]
      exact World.ownsRow.drew (own_set (own_set ho4 _ _) _ _)
    have hs4 := Sl.of_own ci_len hown (by rw [HSL.out]; exact HM.out) (by omega)
    have HOWN := Lib.hid hown
    clear hown
    refine (isLockageOrder_any A n c l (some ⟨g, 0, none⟩) m4 c4 (swapL o k) _ (h.bl hbW) hs4 hcap).mono ?_
    rintro e w3 ⟨rfl, hb3⟩
    have hs5 := hs4.bl hb3
    have hb := hbW.trans hb3
    have HOWN := Lib.hid (hb3.own HOWN.out)
    clear hs4 hbW hb3 ho4 fz y0 y2 g1 g2
    cases h2 : implOrd l (swapL o k)
    · have HR := Lib.hid (show gainR l high mi o k = (0, false) by simp [gainR, h2])
      simp only [h2]
      go_wp2_with fail
      go_ret3
      exact ⟨⟨_, by rw [HR.out]; rfl, fun e => by rw [HR.out] at e; cases e⟩, hb⟩
    have HR := Lib.hid (show gainR l high mi o k = (delayZ l high mi o - delayZ l high mi (swapL o k), true) by simp [gainR, h2])
    obtain ⟨_, _, hr2⟩ := ord_parts h2
    rw [HL.out] at hr2
    obtain ⟨z0, z1⟩ := delay_bd (high := high) h2 m0 m1
    have H4 := Lib.hid (fun w h ho => lockageDelay_any A n c l high mi (some ⟨g, 0, none⟩) m4 c4 (swapL o k) w h ho hr2 HAV.out m0 m1 (by omega))
    generalize delayZ l high mi o = za at *
    generalize delayZ l high mi (swapL o k) = zb at *
    clear hr2
    simp only [h2]
    go_wp2_with fail
    refine (H3.out _ (h.bl hb) (ho.bl hb)).mono ?_
    rintro e w4 ⟨rfl, hb4⟩
    go_wp2_with fail
    refine (H4.out _ (h.bl (hb.trans hb4)) (hs5.bl hb4)).mono ?_
    rintro e w5 ⟨rfl, hb5⟩
    go_wp2_with fail
    go_ret3
    exact ⟨⟨.slice (some ⟨g, 0, none⟩) m4 c4, by rw [HR.out]; rfl, fun _ => ⟨_, _, rfl, hb5.own (hb4.own HOWN.out)⟩⟩, (hb.trans hb4).trans hb5⟩
set_option maxHeartbeats 1000000 in
theorem specSwapGain_any (A : Option Addr) (n c : Nat) (l : List Arrival) (high : Bool) (mi : Int) (B : Option Addr) (m d : Nat) (o : List Int) (x : Int) (w : World) (h : Sl Arrival.cs 4 w A n l) (ho : Sl ci 1 w B m o) (_ : n ≤ c) (hc : m ≤ d) :
    Calls Try.prog 31 #[.slice A n c, .bool high, .int .i64 mi, .slice B m d, .int .i64 x] w fun e w' => e = .returned (.tuple #[.int .i64 (swapGainR l high mi o x).1, .bool (swapGainR l high mi o x).2]) ∧ Bl w w' := by
  have bm := ho.le
  have HL := Lib.hid h.1
  have HM := Lib.hid ho.1
  have H1 := Lib.hid (l8Order_any A n c l B m d o w h ho hc)
  have H2 := Lib.hid (fun w => same_bl (l8Minutes_any mi w))
  have H3 := Lib.hid (fun w => same_bl (l1In_any x 0 ((m : Int) - 2) w))
  have HV : Hid (swapAsked l mi o x = (implOrd l o && inB mi 1 60 && inB x 0 ((m : Int) - 2))) := by show _ = _; rw [swapAsked, HM.out]
  cases h1 : implOrd l o
  · have HR := Lib.hid (show swapGainR l high mi o x = (0, false) by simp only [swapGainR, HV.out, h1]; rfl)
    go_enter Try.func31, Try.ntmps31
    go_wp2_with fail
    refine H1.out.mono ?_
    rintro e w1 ⟨rfl, hb⟩
    simp only [h1]
    go_wp2_with fail
    go_ret2
    exact ⟨by rw [HR.out]; rfl, hb⟩
  cases h2 : inB mi 1 60
  · have HR := Lib.hid (show swapGainR l high mi o x = (0, false) by simp only [swapGainR, HV.out, h1, h2]; rfl)
    go_enter Try.func31, Try.ntmps31
    go_wp2_with fail
    refine H1.out.mono ?_
    rintro e w1 ⟨rfl, hb⟩
    simp only [h1]
    go_wp2_with fail
    refine (H2.out _).mono ?_
    rintro e w' ⟨rfl, hbn⟩
    have hb := hb.trans hbn
    clear hbn
    simp only [h2]
    go_wp2_with fail
    go_ret2
    exact ⟨by rw [HR.out]; rfl, hb⟩
  cases h3 : inB x 0 ((m : Int) - 2)
  · have HR := Lib.hid (show swapGainR l high mi o x = (0, false) by simp only [swapGainR, HV.out, h1, h2, h3]; rfl)
    go_enter Try.func31, Try.ntmps31
    go_wp2_with fail
    refine H1.out.mono ?_
    rintro e w1 ⟨rfl, hb⟩
    simp only [h1]
    go_wp2_with fail
    refine (H2.out _).mono ?_
    rintro e w' ⟨rfl, hbn⟩
    have hb := hb.trans hbn
    clear hbn
    simp only [h2]
    go_wp2_with fail
    refine (H3.out _).mono ?_
    rintro e w' ⟨rfl, hbn⟩
    have hb := hb.trans hbn
    clear hbn
    simp only [h3]
    go_wp2_with fail
    go_ret2
    exact ⟨by rw [HR.out]; rfl, hb⟩
  have hx := inB_iff.1 h3
  obtain ⟨k, rfl⟩ := Int.eq_ofNat_of_zero_le hx.1
  obtain ⟨m0, m1⟩ := inB_iff.1 h2
  have hk : k + 1 < m := by omega
  have HR := Lib.hid (show swapGainR l high mi o (k : Int) = gainR l high mi o k by simp only [swapGainR, HV.out, h1, h2, h3]; rfl)
  have H4 := Lib.hid (fun w h ho => l9Gain_any A n c l high mi B m d o k w h ho h1 m0 m1 hk)
  clear hx
  go_enter Try.func31, Try.ntmps31
  go_wp2_with fail
  refine H1.out.mono ?_
  rintro e w1 ⟨rfl, hb⟩
  simp only [h1]
  go_wp2_with fail
  refine (H2.out _).mono ?_
  rintro e w' ⟨rfl, hbn⟩
  have hb := hb.trans hbn
  clear hbn
  simp only [h2]
  go_wp2_with fail
  refine (H3.out _).mono ?_
  rintro e w' ⟨rfl, hbn⟩
  have hb := hb.trans hbn
  clear hbn
  simp only [h3]
  go_wp2_with fail
  refine (H4.out _ (h.bl hb) (ho.bl hb)).mono ?_
  rintro e w2 ⟨rfl, hbn⟩
  go_wp2_with fail
  go_ret2
  exact ⟨by rw [HR.out]; rfl, hb.trans hbn⟩
set_option maxHeartbeats 1000000 in
theorem implSwapGain_any (A : Option Addr) (n c : Nat) (l : List Arrival) (high : Bool) (mi : Int) (B : Option Addr) (m d : Nat) (o : List Int) (x : Int) (w : World) (h : Sl Arrival.cs 4 w A n l) (ho : Sl ci 1 w B m o) (_ : n ≤ c) (hc : m ≤ d) :
    Calls Try.prog 33 #[.slice A n c, .bool high, .int .i64 mi, .slice B m d, .int .i64 x] w fun e w' => e = .returned (.tuple #[.int .i64 (swapGainR l high mi o x).1, .bool (swapGainR l high mi o x).2]) ∧ Bl w w' := by
  have bm := ho.le
  have HL := Lib.hid h.1
  have HM := Lib.hid ho.1
  have H1 := Lib.hid (isLockageOrder_any A n c l B m d o w h ho hc)
  have H2 := Lib.hid (fun w => same_bl (areMinutes_any mi w))
  have H3 := Lib.hid (fun w => same_bl (inside_any x 0 ((m : Int) - 2) w))
  have HV : Hid (swapAsked l mi o x = (implOrd l o && inB mi 1 60 && inB x 0 ((m : Int) - 2))) := by show _ = _; rw [swapAsked, HM.out]
  cases h1 : implOrd l o
  · have HR := Lib.hid (show swapGainR l high mi o x = (0, false) by simp only [swapGainR, HV.out, h1]; rfl)
    go_enter Try.func33, Try.ntmps33
    go_wp2_with fail
    refine H1.out.mono ?_
    rintro e w1 ⟨rfl, hb⟩
    simp only [h1]
    go_wp2_with fail
    go_ret2
    exact ⟨by rw [HR.out]; rfl, hb⟩
  cases h2 : inB mi 1 60
  · have HR := Lib.hid (show swapGainR l high mi o x = (0, false) by simp only [swapGainR, HV.out, h1, h2]; rfl)
    go_enter Try.func33, Try.ntmps33
    go_wp2_with fail
    refine H1.out.mono ?_
    rintro e w1 ⟨rfl, hb⟩
    simp only [h1]
    go_wp2_with fail
    refine (H2.out _).mono ?_
    rintro e w' ⟨rfl, hbn⟩
    have hb := hb.trans hbn
    clear hbn
    simp only [h2]
    go_wp2_with fail
    go_ret2
    exact ⟨by rw [HR.out]; rfl, hb⟩
  cases h3 : inB x 0 ((m : Int) - 2)
  · have HR := Lib.hid (show swapGainR l high mi o x = (0, false) by simp only [swapGainR, HV.out, h1, h2, h3]; rfl)
    go_enter Try.func33, Try.ntmps33
    go_wp2_with fail
    refine H1.out.mono ?_
    rintro e w1 ⟨rfl, hb⟩
    simp only [h1]
    go_wp2_with fail
    refine (H2.out _).mono ?_
    rintro e w' ⟨rfl, hbn⟩
    have hb := hb.trans hbn
    clear hbn
    simp only [h2]
    go_wp2_with fail
    refine (H3.out _).mono ?_
    rintro e w' ⟨rfl, hbn⟩
    have hb := hb.trans hbn
    clear hbn
    simp only [h3]
    go_wp2_with fail
    go_ret2
    exact ⟨by rw [HR.out]; rfl, hb⟩
  have hx := inB_iff.1 h3
  obtain ⟨k, rfl⟩ := Int.eq_ofNat_of_zero_le hx.1
  obtain ⟨m0, m1⟩ := inB_iff.1 h2
  have hk : k + 1 < m := by omega
  have HR := Lib.hid (show swapGainR l high mi o (k : Int) = gainR l high mi o k by simp only [swapGainR, HV.out, h1, h2, h3]; rfl)
  have H4 := Lib.hid (fun w h ho => swapGain_any A n c l high mi B m d o k w h ho h1 m0 m1 hk)
  clear hx
  go_enter Try.func33, Try.ntmps33
  go_wp2_with fail
  refine H1.out.mono ?_
  rintro e w1 ⟨rfl, hb⟩
  simp only [h1]
  go_wp2_with fail
  refine (H2.out _).mono ?_
  rintro e w' ⟨rfl, hbn⟩
  have hb := hb.trans hbn
  clear hbn
  simp only [h2]
  go_wp2_with fail
  refine (H3.out _).mono ?_
  rintro e w' ⟨rfl, hbn⟩
  have hb := hb.trans hbn
  clear hbn
  simp only [h3]
  go_wp2_with fail
  refine (H4.out _ (h.bl hb) (ho.bl hb)).mono ?_
  rintro e w2 ⟨⟨v, rfl, _⟩, hbn⟩
  go_wp2_with fail
  go_ret2
  exact ⟨by rw [HR.out]; rfl, hb.trans hbn⟩
end Go.Proofs.Ytcmlphikdgfilaa
