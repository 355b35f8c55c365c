/- The contracts of what is drawn of chapter 8: arrivals, minutes, orders. -/
import Derived.Test.YtnckpionabokeaaD1
import Derived.Test.YtnckpionabokeaaQ8e
import Derived.Test.YtnckpionabokeaaC8b
import Derived.Test.YtnckpionabokeaaCmp
namespace Go.Proofs.Ytnckpionabokeaa
open Go.RowKit
theorem Arrival.one (p : Arrival) : ∀ u ∈ p.cs, u.oneCell' = true := by intro u hu; simp [Arrival.cs] at hu; rcases hu with rfl | rfl | rfl | rfl <;> rfl
theorem arr_snoc {w : World} {B E m : Nat} {v : Value} {l : List Arrival} {y : Arrival} (h : w.ownsRow B E 4 v m (l.flatMap Arrival.cs ++ Arrival.cs y)) : ∃ l' : List Arrival, l'.length = l.length + 1 ∧ w.ownsRow B E 4 v m (l'.flatMap Arrival.cs) :=
  ⟨l ++ [y], by simp, by rw [List.flatMap_append]; simpa using h⟩
/-- A list of arrivals that has been drawn. -/
def DrArr (top : Nat) (z : World) (g : Nat) (A : Option Addr) (n c k : Nat) (w : World) (e : Ending) (w' : World) : Prop :=
  ∃ (B : Option Addr) (m d : Nat) (l : List Arrival), e = .returned (.slice B m d) ∧ w'.ownsRow w.heap.size 43 4 (.slice B m d) m (l.flatMap Arrival.cs) ∧ l.length = m ∧ m ≤ top ∧ Dr z g A n c k w w'
set_option maxRecDepth 100000 in
set_option maxHeartbeats 8000000 in
theorem arrivals_any (z : World) (g : Nat) (A : Option Addr) (n c k : Nat) (code : List Int) (hs : Sl cb 1 z A n code) (hby : Bytes code) (hk : k ≤ 100000) (w : World) (h : Cur z g A n c k w) :
    Calls Try.prog 69 #[.pointer (some ⟨g, 0, none⟩)] w (DrArr 8 z g A n c (k + 100) w) := by
  have HP := pick_all z g A n c code hs hby
  have HO := one_all z g A n c code hs hby
  have HA := among_all z g A n c code hs hby
  have hgw := h.lt
  have HC := Lib.hid (h.bl ((Bl.refl w).alloc (.cells #[] 43)))
  have HD0 := Lib.hid ((Dr.refl h).bl ((Bl.refl w).alloc (.cells #[] 43)))
  have HM := Lib.hid (made_at Arrival.cs 4 w 43 w.heap.size _ rfl (Nat.le_refl _))
  clear h hs hby
  go_enter Try.func69, Try.ntmps69
  go_wp2_with fail
  refine (HP.out k (by omega) 6 (by omega) (by omega) _ HC.out).mono ?_
  rintro e w1 ⟨x, rfl, ⟨x0, x1⟩, hd⟩
  have HM1 := Lib.hid (hd.keep hgw HM.out)
  have HD1 := Lib.hid (HD0.out.trans hd)
  obtain ⟨j0, rfl⟩ := Int.eq_ofNat_of_zero_le x0
  have hj0 : j0 ≤ 5 := by omega
  clear hd HC HM x0 x1
  go_wp2_with fail
  go_loopw [3, 4, 5] (fun u i v wr => ∃ (j : Nat) (x : Int) (B : Option Addr) (m d : Nat) (l : List Arrival), j + m ≤ 5 ∧ v = .int .i64 j ∧ i = .int .i64 x ∧ u = .slice B m d ∧ l.length = m ∧ wr.ownsRow w.heap.size 43 4 (.slice B m d) m (l.flatMap Arrival.cs) ∧ Dr z g A n c (k + 42 - 8 * j) w wr) (fun _ _ v _ => (intOf v).toNat)
  case atStart => exact ⟨j0, 0, _, 0, 0, [], by omega, rfl, rfl, rfl, rfl, HM1.out, HD1.out.up (by omega)⟩
  case round =>
    clear HM1 HD1 HD0 hj0
    obtain ⟨j, x, B, m, d, l, hj, rfl, rfl, rfl, hl, hor, hd⟩ := hrel
    have HL := Lib.hid hl
    have HOR := Lib.hid hor
    have HD := Lib.hid hd
    clear hl hor hd
    by_cases hj0 : 0 < j
    · go_wp2_with fail
      refine (HP.out _ (by omega) 6 (by omega) (by omega) _ HD.out.cur).mono ?_
      rintro e w' ⟨y, rfl, ⟨y0, y1⟩, hd⟩
      have HOR := Lib.hid (hd.keep hgw HOR.out)
      have HD := Lib.hid (HD.out.trans hd)
      clear hd
      go_wp2_with fail
      refine (HO.out _ (by omega) 2 (by omega) (by omega) _ HD.out.cur).mono ?_
      rintro e w' ⟨b, rfl, hd⟩
      have HOR := Lib.hid (hd.keep hgw HOR.out)
      have HD := Lib.hid (HD.out.trans hd)
      clear hd
      go_wp2_with fail
      refine (HA.out _ (by omega) _ 8 _ [0, 0, 10, 15, 20, 30, 60, 90] (by decide) (by decide) _ (sl_lit _ 3 [0, 0, 10, 15, 20, 30, 60, 90] (le_top (by decide))) (new_ne (Nat.lt_of_lt_of_le hgw HD.out.le)) (HD.out.cur.bl ((Bl.refl _).alloc _))).mono ?_
      rintro e w' ⟨y2, rfl, _, hd⟩
      have HOR := Lib.hid (hd.keep hgw (World.ownsRow.alloc HOR.out _))
      have HD := Lib.hid ((HD.out.bl ((Bl.refl _).alloc _)).trans hd)
      clear hd
      go_wp2_with fail
      refine (HA.out _ (by omega) _ 5 _ [1, 1, 2, 3, 9] (by decide) (by decide) _ (sl_lit _ 3 [1, 1, 2, 3, 9] (le_top (by decide))) (new_ne (Nat.lt_of_lt_of_le hgw HD.out.le)) (HD.out.cur.bl ((Bl.refl _).alloc _))).mono ?_
      rintro e w' ⟨y3, rfl, _, hd⟩
      have HOR := Lib.hid (hd.keep hgw (World.ownsRow.alloc HOR.out _))
      have HD := Lib.hid ((HD.out.bl ((Bl.refl _).alloc _)).trans hd)
      clear hd
      have ho9 := HOR.out
      have hb9 := HD.out.le
      obtain ⟨i0, hi0, hz0, hz1, hz2⟩ := info_parts infoArrival
      go_wp2_with (at_builtin; refine wpList_append_one _ rfl _ _ _ rfl _ 43 i0 _ 4 32 Try.underlying25 hi0 hz0 hz1 hz2 rfl (by omega) Arrival.cs_len Arrival.one _ m l rfl ⟨_, _, _, _⟩ _ rfl (by first | rfl | simp) _ rfl ho9 hb9 (by unfold maxLen; omega) (by omega) ?_)
      clear hi0 hz0 hz1 hz2
      intro B6 d6 w6 ho6 hg6
      obtain ⟨l6, hl6, ho6'⟩ := arr_snoc ho6
      have HOR6 := Lib.hid ho6'
      have HD6 := Lib.hid (HD.out.app hgw ho9 hg6)
      have HL6 := Lib.hid (hl6.trans (congrArg (· + 1) HL.out))
      clear ho6 ho6' hg6 hl6 ho9 hb9
      go_wp2_with fail
      first | exact ⟨⟨j - 1, _, B6, m + 1, d6, l6, by omega, by congr 1; omega, rfl, rfl, HL6.out, HOR6.out, HD6.out.up (by omega)⟩, by simp [intOf]; omega⟩ | (refine ⟨?_, by simp [intOf]; omega⟩; (repeat apply Exists.intro); exact ⟨⟨j - 1, _, B6, m + 1, d6, l6, by omega, by congr 1; omega, rfl, rfl, HL6.out, HOR6.out, HD6.out.up (by omega)⟩, rfl⟩)
    · obtain rfl : j = 0 := by omega
      go_wp2_with fail
      refine (HP.out _ (by omega) 24 (by omega) (by omega) _ HD.out.cur).mono ?_
      rintro e w' ⟨t, rfl, ⟨t0, t1⟩, hd⟩
      have HOR := Lib.hid (hd.keep hgw HOR.out)
      have HD := Lib.hid (HD.out.trans hd)
      clear hd
      by_cases ht0 : t = 0
      · subst ht0
        go_wp2_with fail
        refine (HA.out _ (by omega) _ 3 _ [99, 100, 1] (by decide) (by decide) _ (sl_lit _ 3 [99, 100, 1] (le_top (by decide))) (new_ne (Nat.lt_of_lt_of_le hgw HD.out.le)) (HD.out.cur.bl ((Bl.refl _).alloc _))).mono ?_
        rintro e w' ⟨y2, rfl, _, hd⟩
        have HOR := Lib.hid (hd.keep hgw (World.ownsRow.alloc HOR.out _))
        have HD := Lib.hid ((HD.out.bl ((Bl.refl _).alloc _)).trans hd)
        clear hd
        go_wp2_with fail
        refine (HA.out _ (by omega) _ 3 _ [0, 9999, 10000] (by decide) (by decide) _ (sl_lit _ 3 [0, 9999, 10000] (le_top (by decide))) (new_ne (Nat.lt_of_lt_of_le hgw HD.out.le)) (HD.out.cur.bl ((Bl.refl _).alloc _))).mono ?_
        rintro e w' ⟨y3, rfl, _, hd⟩
        have HOR := Lib.hid (hd.keep hgw (World.ownsRow.alloc HOR.out _))
        have HD := Lib.hid ((HD.out.bl ((Bl.refl _).alloc _)).trans hd)
        clear hd
        have ho9 := HOR.out
        have hb9 := HD.out.le
        obtain ⟨i0, hi0, hz0, hz1, hz2⟩ := info_parts infoArrival
        go_wp2_with (at_builtin; refine wpList_append_one _ rfl _ _ _ rfl _ 43 i0 _ 4 32 Try.underlying25 hi0 hz0 hz1 hz2 rfl (by omega) Arrival.cs_len Arrival.one _ m l rfl ⟨_, _, _, _⟩ _ rfl (by first | rfl | simp) _ rfl ho9 hb9 (by unfold maxLen; omega) (by omega) ?_)
        clear hi0 hz0 hz1 hz2
        intro B6 d6 w6 ho6 hg6
        obtain ⟨l6, hl6, ho6'⟩ := arr_snoc ho6
        have HOR6 := Lib.hid ho6'
        have HD6 := Lib.hid (HD.out.app hgw ho9 hg6)
        have HL6 := Lib.hid (hl6.trans (congrArg (· + 1) HL.out))
        clear ho6 ho6' hg6 hl6 ho9 hb9
        go_wp2_with fail
        go_ret
        exact ⟨B6, m + 1, d6, l6, rfl, HOR6.out, HL6.out, by omega, HD6.out.up (by omega)⟩
      have hq0 : (t == 0) = false := by simpa using ht0
      by_cases ht1 : t = 1
      · subst ht1
        clear ht0 hq0
        go_wp2_with fail
        refine (HA.out _ (by omega) _ 3 _ [0, 10, 9] (by decide) (by decide) _ (sl_lit _ 3 [0, 10, 9] (le_top (by decide))) (new_ne (Nat.lt_of_lt_of_le hgw HD.out.le)) (HD.out.cur.bl ((Bl.refl _).alloc _))).mono ?_
        rintro e w' ⟨y2, rfl, _, hd⟩
        have HOR := Lib.hid (hd.keep hgw (World.ownsRow.alloc HOR.out _))
        have HD := Lib.hid ((HD.out.bl ((Bl.refl _).alloc _)).trans hd)
        clear hd
        have ho9 := HOR.out
        have hb9 := HD.out.le
        obtain ⟨i0, hi0, hz0, hz1, hz2⟩ := info_parts infoArrival
        go_wp2_with (at_builtin; refine wpList_append_one _ rfl _ _ _ rfl _ 43 i0 _ 4 32 Try.underlying25 hi0 hz0 hz1 hz2 rfl (by omega) Arrival.cs_len Arrival.one _ m l rfl ⟨_, _, _, _⟩ _ rfl (by first | rfl | simp) _ rfl ho9 hb9 (by unfold maxLen; omega) (by omega) ?_)
        clear hi0 hz0 hz1 hz2
        intro B6 d6 w6 ho6 hg6
        obtain ⟨l6, hl6, ho6'⟩ := arr_snoc ho6
        have HOR6 := Lib.hid ho6'
        have HD6 := Lib.hid (HD.out.app hgw ho9 hg6)
        have HL6 := Lib.hid (hl6.trans (congrArg (· + 1) HL.out))
        clear ho6 ho6' hg6 hl6 ho9 hb9
        go_wp2_with fail
        go_ret
        exact ⟨B6, m + 1, d6, l6, rfl, HOR6.out, HL6.out, by omega, HD6.out.up (by omega)⟩
      have hq1 : (t == 1) = false := by simpa using ht1
      by_cases ht2 : t = 2
      · subst ht2
        clear ht0 hq0 ht1 hq1
        go_wp2_with fail
        go_loopw [3, 6] (fun u v wr => ∃ (i : Nat) (B : Option Addr) (m d : Nat) (l : List Arrival), i ≤ 8 ∧ v = .int .i64 i ∧ u = .slice B m d ∧ l.length = m ∧ m ≤ 7 ∧ wr.ownsRow w.heap.size 43 4 (.slice B m d) m (l.flatMap Arrival.cs) ∧ Dr z g A n c (k + 60 + 2 * i) w wr) (fun _ v _ => 8 - (intOf v).toNat)
        case atStart => exact ⟨0, B, m, d, l, by omega, rfl, rfl, HL.out, by omega, HOR.out, HD.out.up (by omega)⟩
        case round =>
          clear HL HOR HD
          obtain ⟨i, B, m, d, l, hi, rfl, rfl, hl, hm, hor, hd⟩ := hrel
          have HL := Lib.hid hl
          have HOR := Lib.hid hor
          have HD := Lib.hid hd
          clear hl hor hd
          go_wp2_with fail
          refine (HP.out _ (by omega) 2 (by omega) (by omega) _ HD.out.cur).mono ?_
          rintro e w' ⟨p, rfl, ⟨p0, p1⟩, hd⟩
          have HOR := Lib.hid (hd.keep hgw HOR.out)
          have HD := Lib.hid (HD.out.trans hd)
          clear hd
          by_cases h1 : (m : Int) < 6 + p
          · by_cases h2 : (i : Int) < 8
            · have ho9 := HOR.out
              have hb9 := HD.out.le
              obtain ⟨i0, hi0, hz0, hz1, hz2⟩ := info_parts infoArrival
              go_wp2_with (at_builtin; refine wpList_append_one _ rfl _ _ _ rfl _ 43 i0 _ 4 32 Try.underlying25 hi0 hz0 hz1 hz2 rfl (by omega) Arrival.cs_len Arrival.one _ m l rfl ⟨_, _, _, _⟩ _ rfl (by first | rfl | simp) _ rfl ho9 hb9 (by unfold maxLen; omega) (by omega) ?_)
              clear hi0 hz0 hz1 hz2
              intro B6 d6 w6 ho6 hg6
              obtain ⟨l6, hl6, ho6'⟩ := arr_snoc ho6
              have HOR6 := Lib.hid ho6'
              have HD6 := Lib.hid (HD.out.app hgw ho9 hg6)
              have HL6 := Lib.hid (hl6.trans (congrArg (· + 1) HL.out))
              clear ho6 ho6' hg6 hl6 ho9 hb9
              go_wp2_with fail
              first | exact ⟨⟨i + 1, B6, m + 1, d6, l6, by omega, by go_num, rfl, HL6.out, by omega, HOR6.out, HD6.out.up (by omega)⟩, by simp [intOf]; omega⟩ | (refine ⟨?_, by simp [intOf]; omega⟩; (repeat apply Exists.intro); exact ⟨⟨i + 1, B6, m + 1, d6, l6, by omega, by go_num, rfl, HL6.out, by omega, HOR6.out, HD6.out.up (by omega)⟩, rfl⟩)
            · go_wp2_with fail
              go_ret
              exact ⟨B, m, d, l, rfl, HOR.out, HL.out, by omega, HD.out.up (by omega)⟩
          · go_wp2_with fail
            go_ret
            exact ⟨B, m, d, l, rfl, HOR.out, HL.out, by omega, HD.out.up (by omega)⟩
      · have hq2 : (t == 2) = false := by simpa using ht2
        go_wp2_with fail
        go_ret
        exact ⟨B, m, d, l, rfl, HOR.out, HL.out, by omega, HD.out.up (by omega)⟩
theorem arrivals_all (z : World) (g : Nat) (A : Option Addr) (n c : Nat) (code : List Int) (hs : Sl cb 1 z A n code) (hby : Bytes code) : Hid (∀ k, k ≤ 100000 → ∀ w, Cur z g A n c k w → Calls Try.prog 69 #[.pointer (some ⟨g, 0, none⟩)] w (DrArr 8 z g A n c (k + 100) w)) :=
  fun k hk w h => arrivals_any z g A n c k code hs hby hk w h
set_option maxHeartbeats 1000000 in
theorem lockageMinutes_any (z : World) (g : Nat) (A : Option Addr) (n c k : Nat) (code : List Int) (hs : Sl cb 1 z A n code) (hby : Bytes code) (hk : k ≤ 100000) (w : World) (h : Cur z g A n c k w) :
    Calls Try.prog 74 #[.pointer (some ⟨g, 0, none⟩)] w (DrInt (fun _ => True) z g A n c (k + 2) w) := by
  have HA := among_all z g A n c code hs hby
  have hgw := h.lt
  have HD := Lib.hid (Dr.refl h)
  clear h hs hby
  go_enter Try.func74, Try.ntmps74
  go_wp2_with fail
  refine (HA.out _ (by omega) _ 10 _ [1, 10, 10, 15, 20, 60, 12, 5, 61, 0] (by decide) (by decide) _ (sl_lit _ 3 [1, 10, 10, 15, 20, 60, 12, 5, 61, 0] (le_top (by decide))) (new_ne (Nat.lt_of_lt_of_le hgw HD.out.le)) (HD.out.cur.bl ((Bl.refl _).alloc _))).mono ?_
  rintro e w' ⟨y, rfl, _, hd⟩
  have HD := Lib.hid ((HD.out.bl ((Bl.refl _).alloc _)).trans hd)
  clear hd
  go_wp2_with fail
  go_ret
  exact ⟨_, rfl, trivial, HD.out⟩
theorem lockageMinutes_all (z : World) (g : Nat) (A : Option Addr) (n c : Nat) (code : List Int) (hs : Sl cb 1 z A n code) (hby : Bytes code) : Hid (∀ k, k ≤ 100000 → ∀ w, Cur z g A n c k w → Calls Try.prog 74 #[.pointer (some ⟨g, 0, none⟩)] w (DrInt (fun _ => True) z g A n c (k + 2) w)) :=
  fun k hk w h => lockageMinutes_any z g A n c k code hs hby hk w h
end Go.Proofs.Ytnckpionabokeaa
