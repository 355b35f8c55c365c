/- The contracts of what is drawn of chapter 6: series, greatest differences. -/
import Derived.Test.YtmnbbnboaokgjaaD6
namespace Go.Proofs.Ytmnbbnboaokgjaa
open Go.RowKit
set_option maxHeartbeats 2000000 in
theorem most6_any (z : World) (g : Nat) (A : Option Addr) (n c k : Nat) (code : List Int) (hs : Sl cb 1 z A n code) (hby : Bytes code) (hk : k ≤ 100000) (w : World) (h : Cur z g A n c k w) :
    Calls Try.prog 87 #[.pointer (some ⟨g, 0, none⟩)] w (DrInt (fun _ => True) z g A n c (k + 4) w) := by
  have HP := pick_all z g A n c code hs hby
  have HA := among_all z g A n c code hs hby
  have hgw := h.lt
  have HC := Lib.hid (h.bl ((Bl.refl w).alloc (.cells #[.int .i64 0, .int .i64 1, .int .i64 3, .int .i64 10, .int .i64 400, .int .i64 2000, .int .i64 (-1), .int .i64 2001] 3)))
  have HD0 := Lib.hid ((Dr.refl h).bl ((Bl.refl w).alloc (.cells #[.int .i64 0, .int .i64 1, .int .i64 3, .int .i64 10, .int .i64 400, .int .i64 2000, .int .i64 (-1), .int .i64 2001] 3)))
  clear h hs hby
  go_enter Try.func87, Try.ntmps87
  go_wp2_with fail
  refine (HP.out _ (by omega) 24 (by omega) (by omega) _ HC.out).mono ?_
  rintro e w1 ⟨x, rfl, ⟨x0, x1⟩, hd⟩
  have HSL := Lib.hid (hd.sl (sl_lit w 3 [0, 1, 3, 10, 400, 2000, -1, 2001] (le_top (by decide))) (new_ne hgw))
  have HD1 := Lib.hid (HD0.out.trans hd)
  clear hd HC HD0
  have hx : x ≤ 23 := by omega
  have hq : Int.tdiv x 11 = 0 ∨ Int.tdiv x 11 = 1 ∨ Int.tdiv x 11 = 2 := by
    rw [Int.tdiv_eq_ediv_of_nonneg x0]; omega
  clear x1
  rcases hq with hq | hq | hq
  · go_wp2_with fail
    refine (HA.out _ (by omega) _ 6 _ _ (by decide) (by decide) _ (HSL.out.take_ (i := 6) (by decide)) (new_ne hgw) HD1.out.cur).mono ?_
    rintro e w2 ⟨y, rfl, _, hd⟩
    have HD2 := Lib.hid (HD1.out.trans hd)
    clear hd
    go_wp2_with fail
    go_ret
    exact ⟨_, rfl, trivial, HD2.out⟩
  · go_wp2_with fail
    refine (HA.out _ (by omega) _ 7 _ _ (by decide) (by decide) _ (HSL.out.take_ (i := 7) (by decide)) (new_ne hgw) HD1.out.cur).mono ?_
    rintro e w2 ⟨y, rfl, _, hd⟩
    have HD2 := Lib.hid (HD1.out.trans hd)
    clear hd
    go_wp2_with fail
    go_ret
    exact ⟨_, rfl, trivial, HD2.out⟩
  · go_wp2_with fail
    refine (HA.out _ (by omega) _ 8 _ _ (by decide) (by decide) _ (HSL.out.take_ (i := 8) (by decide)) (new_ne hgw) HD1.out.cur).mono ?_
    rintro e w2 ⟨y, rfl, _, hd⟩
    have HD2 := Lib.hid (HD1.out.trans hd)
    clear hd
    go_wp2_with fail
    go_ret
    exact ⟨_, rfl, trivial, HD2.out⟩
theorem int_snoc {w : World} {B E m : Nat} {v : Value} {l : List Int} {y : Int} (h : w.ownsRow B E 1 v m (l.flatMap ci ++ ci y)) : ∃ l' : List Int, l'.length = l.length + 1 ∧ w.ownsRow B E 1 v m (l'.flatMap ci) :=
  ⟨l ++ [y], by simp, by rw [List.flatMap_append]; simpa using h⟩
/-- A series that has been drawn. -/
def DrSer (z : World) (g : Nat) (A : Option Addr) (n c k : Nat) (w : World) (e : Ending) (w' : World) : Prop :=
  ∃ (B : Option Addr) (m d : Nat) (l : List Int), e = .returned (.slice B m d) ∧ w'.ownsRow w.heap.size 3 1 (.slice B m d) m (l.flatMap ci) ∧ l.length = m ∧ m ≤ 30 ∧ Dr z g A n c k w w'
theorem most_ex (a b : Int) (w : World) : Calls Try.prog 113 #[.int .i64 a, .int .i64 b] w fun e w' => (∃ v : Int, e = .returned (.int .i64 v)) ∧ w = w' :=
  (l1Most_any a b w).mono fun e w' h => ⟨⟨_, h.1⟩, h.2⟩
set_option maxRecDepth 100000 in
set_option maxHeartbeats 2000000 in
theorem series_any (z : World) (g : Nat) (A : Option Addr) (n c k : Nat) (code : List Int) (hs : Sl cb 1 z A n code) (hby : Bytes code) (hk : k ≤ 10000) (w : World) (h : Cur z g A n c k w) :
    Calls Try.prog 86 #[.pointer (some ⟨g, 0, none⟩)] w (DrSer z g A n c (k + 200) w) := by
  have HP := pick_all z g A n c code hs hby
  have HA := among_all z g A n c code hs hby
  have H6 := level6_all z g A n c code hs hby
  have hgw := h.lt
  have HD := Lib.hid ((Dr.refl h).bl ((Bl.refl w).alloc (.cells #[] 3)))
  have HOR := Lib.hid (made_at ci 1 w 3 w.heap.size _ rfl (Nat.le_refl _))
  clear h hs hby
  have hz : (w.alloc (.cells #[] 3)).heap.size = w.heap.size + 1 := by simp
  have HS0 : Hid (Sl ci 1 ((w.alloc (.cells #[] 3)).alloc (.cells #[.int .i64 100, .int .i64 500, .int .i64 0] 3)) (some ⟨w.heap.size + 1, 0, none⟩) 3 [100, 500, 0]) := by
    show Sl _ _ _ _ _ _
    rw [← hz]
    exact sl_lit _ _ [100, 500, 0] (le_top (by decide))
  clear hz
  go_enter Try.func86, Try.ntmps86
  go_wp2_with fail
  refine (HA.out k (by omega) _ 3 _ _ (by decide) (by decide) _ HS0.out (new_ne (H := w.heap.size + 1) (by omega)) (HD.out.cur.bl ((Bl.refl _).alloc _))).mono ?_
  rintro e w1 ⟨x, rfl, _, hd⟩
  have HOR := Lib.hid (hd.keep hgw (World.ownsRow.alloc HOR.out _))
  have HD := Lib.hid ((HD.out.bl ((Bl.refl _).alloc _)).trans hd)
  clear hd HS0
  go_wp2_with fail
  refine (HP.out _ (by omega) 10 (by omega) (by omega) _ HD.out.cur).mono ?_
  rintro e w' ⟨xn, rfl, ⟨xn0, xn1⟩, hd⟩
  have HOR := Lib.hid (hd.keep hgw HOR.out)
  have HD := Lib.hid (HD.out.trans hd)
  clear hd
  obtain ⟨j0, rfl⟩ := Int.eq_ofNat_of_zero_le xn0
  have hj0 : j0 ≤ 9 := by omega
  clear xn0 xn1
  go_wp2_with fail
  go_loopw [3, 4, 5] (fun u i v wr => ∃ (j : Nat) (x : Int) (B : Option Addr) (m d : Nat) (l : List Int), j + m ≤ 9 ∧ v = .int .i64 j ∧ i = .int .i64 x ∧ u = .slice B m d ∧ l.length = m ∧ wr.ownsRow w.heap.size 3 1 (.slice B m d) m (l.flatMap ci) ∧ Dr z g A n c (k + 62 - 5 * j) w wr) (fun _ _ v _ => (intOf v).toNat)
  case atStart => exact ⟨j0, _, _, 0, 0, [], by omega, rfl, rfl, rfl, rfl, HOR.out, HD.out.up (by omega)⟩
  case round =>
    clear HOR HD hj0
    obtain ⟨j, x, B, m, d, l, hj, rfl, rfl, rfl, hl, hor, hd⟩ := hrel
    have HL := Lib.hid hl
    have HOR := Lib.hid hor
    have HD := Lib.hid hd
    clear hl hor hd
    by_cases hj0 : 0 < j
    · go_wp2_with fail
      refine (HA.out _ (by omega) _ 8 _ [0, 0, 0, 1, -1, 3, -7, 50] (by decide) (by decide) _ (sl_lit _ 3 [0, 0, 0, 1, -1, 3, -7, 50] (le_top (by decide))) (new_ne (Nat.lt_of_lt_of_le hgw HD.out.le)) (HD.out.cur.bl ((Bl.refl _).alloc _))).mono ?_
      rintro e w' ⟨y, rfl, _, hd⟩
      have HOR := Lib.hid (hd.keep hgw (World.ownsRow.alloc HOR.out _))
      have HD := Lib.hid ((HD.out.bl ((Bl.refl _).alloc _)).trans hd)
      clear hd
      go_wp2_with fail
      refine (most_ex _ _ _).mono ?_
      rintro e w2 ⟨⟨v, rfl⟩, rfl⟩
      have ho9 := HOR.out
      have hb9 := HD.out.le
      obtain ⟨i0, hi0, hz0, hz1, hz2⟩ := info_parts infoInt
      go_wp2_with (at_builtin; refine wpList_append_one _ rfl _ _ _ rfl _ 3 i0 _ 1 8 Try.underlying33 hi0 hz0 hz1 hz2 rfl (by omega) ci_len ci_one _ m l rfl v _ rfl (by first | rfl | simp) _ rfl ho9 hb9 (by unfold maxLen; omega) (by omega) ?_)
      clear hi0 hz0 hz1 hz2
      intro B6 d6 w6 ho6 hg6
      obtain ⟨l6, hl6, ho6'⟩ := int_snoc ho6
      have HOR6 := Lib.hid ho6'
      have HD6 := Lib.hid (HD.out.app hgw ho9 hg6)
      have HL6 := Lib.hid (hl6.trans (congrArg (· + 1) HL.out))
      clear ho6 ho6' hg6 hl6 ho9 hb9
      go_wp2_with fail
      first | exact ⟨⟨j - 1, _, B6, m + 1, d6, l6, by omega, by congr 1; omega, rfl, rfl, HL6.out, HOR6.out, HD6.out.up (by omega)⟩, by simp [intOf]; omega⟩ | (refine ⟨?_, by simp [intOf]; omega⟩; (repeat apply Exists.intro); exact ⟨⟨j - 1, _, B6, m + 1, d6, l6, by omega, by congr 1; omega, rfl, rfl, HL6.out, HOR6.out, HD6.out.up (by omega)⟩, rfl⟩)
    · obtain rfl : j = 0 := by omega
      go_wp2_with fail
      refine (HP.out _ (by omega) 24 (by omega) (by omega) _ HD.out.cur).mono ?_
      rintro e w' ⟨t, rfl, ⟨t0, t1⟩, hd⟩
      have HOR := Lib.hid (hd.keep hgw HOR.out)
      have HD := Lib.hid (HD.out.trans hd)
      clear hd
      by_cases ht0 : t = 0
      · subst ht0
        go_wp2_with fail
        refine (H6.out _ (by omega) _ HD.out.cur).mono ?_
        rintro e w2 ⟨y, rfl, _, hd⟩
        have HOR := Lib.hid (hd.keep hgw HOR.out)
        have HD := Lib.hid (HD.out.trans hd)
        clear hd
        have ho9 := HOR.out
        have hb9 := HD.out.le
        obtain ⟨i0, hi0, hz0, hz1, hz2⟩ := info_parts infoInt
        go_wp2_with (at_builtin; refine wpList_append_one _ rfl _ _ _ rfl _ 3 i0 _ 1 8 Try.underlying33 hi0 hz0 hz1 hz2 rfl (by omega) ci_len ci_one _ m l rfl y _ rfl (by first | rfl | simp) _ rfl ho9 hb9 (by unfold maxLen; omega) (by omega) ?_)
        clear hi0 hz0 hz1 hz2
        intro B6 d6 w6 ho6 hg6
        obtain ⟨l6, hl6, ho6'⟩ := int_snoc ho6
        have HOR6 := Lib.hid ho6'
        have HD6 := Lib.hid (HD.out.app hgw ho9 hg6)
        have HL6 := Lib.hid (hl6.trans (congrArg (· + 1) HL.out))
        clear ho6 ho6' hg6 hl6 ho9 hb9
        go_wp2_with fail
        go_ret
        exact ⟨B6, m + 1, d6, l6, rfl, HOR6.out, HL6.out, by omega, HD6.out.up (by omega)⟩
      have hq0 : (t == 0) = false := by simpa using ht0
      by_cases ht1 : t = 1
      · subst ht1
        clear ht0 hq0
        go_wp2_with fail
        go_loopw [3] (fun u wr => ∃ (B : Option Addr) (m d : Nat) (l : List Int), u = .slice B m d ∧ l.length = m ∧ m ≤ 21 ∧ wr.ownsRow w.heap.size 3 1 (.slice B m d) m (l.flatMap ci) ∧ Dr z g A n c (k + 100 + 2 * m) w wr) (fun u _ => 21 - lenOfV u)
        case atStart => exact ⟨B, m, d, l, rfl, HL.out, by omega, HOR.out, HD.out.up (by omega)⟩
        case round =>
          clear HL HOR HD
          obtain ⟨B, m, d, l, rfl, hl, hm, hor, hd⟩ := hrel
          have HL := Lib.hid hl
          have HOR := Lib.hid hor
          have HD := Lib.hid hd
          clear hl hor hd
          go_wp2_with fail
          refine (HP.out _ (by omega) 2 (by omega) (by omega) _ HD.out.cur).mono ?_
          rintro e w' ⟨p, rfl, ⟨p0, p1⟩, hd⟩
          have HOR := Lib.hid (hd.keep hgw HOR.out)
          have HD := Lib.hid (HD.out.trans hd)
          clear hd
          by_cases h1 : (m : Int) < 20 + p
          · have hm2 : m ≤ 20 := by omega
            have ho9 := HOR.out
            have hb9 := HD.out.le
            obtain ⟨i0, hi0, hz0, hz1, hz2⟩ := info_parts infoInt
            go_wp2_with (at_builtin; refine wpList_append_one _ rfl _ _ _ rfl _ 3 i0 _ 1 8 Try.underlying33 hi0 hz0 hz1 hz2 rfl (by omega) ci_len ci_one _ m l rfl (7 : Int) _ rfl (by first | rfl | simp) _ rfl ho9 hb9 (by unfold maxLen; omega) (by omega) ?_)
            clear hi0 hz0 hz1 hz2
            intro B6 d6 w6 ho6 hg6
            obtain ⟨l6, hl6, ho6'⟩ := int_snoc ho6
            have HOR6 := Lib.hid ho6'
            have HD6 := Lib.hid (HD.out.app hgw ho9 hg6)
            have HL6 := Lib.hid (hl6.trans (congrArg (· + 1) HL.out))
            clear ho6 ho6' hg6 hl6 ho9 hb9
            go_wp2_with fail
            refine ⟨⟨B6, m + 1, d6, l6, rfl, HL6.out, by omega, HOR6.out, HD6.out.up (by omega)⟩, by simp [lenOfV]; omega⟩
          · go_wp2_with fail
            go_ret
            exact ⟨B, m, d, l, rfl, HOR.out, HL.out, by omega, HD.out.up (by omega)⟩
      · have hq1 : (t == 1) = false := by simpa using ht1
        go_wp2_with fail
        go_ret
        exact ⟨B, m, d, l, rfl, HOR.out, HL.out, by omega, HD.out.up (by omega)⟩
/-- A series, a number. -/
def DrS2 (w : World) (e : Ending) (w' : World) : Prop :=
  ∃ (B : Option Addr) (m d : Nat) (l : List Int) (f : Int), e = .returned (.tuple #[.slice B m d, .int .i64 f]) ∧ Sl ci 1 w' B m l ∧ m ≤ 30 ∧ m ≤ d ∧ Bl w w'
section
variable (A : Option Addr) (n c : Nat) (code : List Int) (w : World) (hs : Sl cb 1 w A n code) (hby : Bytes code)
include hs hby in
set_option maxHeartbeats 2000000 in
theorem drawJumpIn_any : Calls Try.prog 35 #[.slice A n c] w (DrS2 w) := by
  have HB := Lib.hid (fun W hW => series_any w w.heap.size A n c 0 code hs hby (by omega) W hW)
  have HM := Lib.hid (fun k hk W hW => most6_any w w.heap.size A n c k code hs hby hk W hW)
  have hgw : w.heap.size < (w.alloc (.cells #[.slice A n c, .int .i64 0, .int .u64 0] 93)).heap.size := by simp
  have HC0 : Hid (Cur w w.heap.size A n c 0 (w.alloc (.cells #[.slice A n c, .int .i64 0, .int .u64 0] 93))) := ⟨(Bl.refl w).alloc _, Nat.le_refl _, 0, 0, Nat.le_refl _, heap_alloc_new w _⟩
  clear hs hby
  go_enter Try.func35, Try.ntmps35
  go_wp2_with fail
  refine (HB.out _ HC0.out).mono ?_
  rintro e w1 ⟨B, m, d, l, rfl, ho, hl, hm, hd⟩
  have HOR := Lib.hid ho
  have HL := Lib.hid hl
  have HD := Lib.hid hd
  clear ho hl hd
  go_wp2_with fail
  refine (HM.out _ (by omega) _ HD.out.cur).mono ?_
  rintro e w2 ⟨y, rfl, _, hd⟩
  have HOR := Lib.hid (hd.keep hgw HOR.out)
  have HD := Lib.hid (HD.out.trans hd)
  clear hd
  go_wp2_with fail
  go_ret2
  exact ⟨B, m, d, l, y, rfl, Sl.of_own ci_len HOR.out HL.out (by omega), hm, own_cap HOR.out, HD.out.cur.1⟩
include hs hby in
set_option maxHeartbeats 2000000 in
theorem drawLongestCalm_any : Calls Try.prog 31 #[.slice A n c] w (DrS2 w) := by
  have HB := Lib.hid (drawJumpIn_any A n c code w hs hby)
  clear hs hby
  go_enter Try.func31, Try.ntmps31
  go_wp2_with fail
  refine HB.out.mono ?_
  rintro e w1 ⟨B, m, d, l, f, rfl, hsl, hm, hmd, hb⟩
  go_wp2_with fail
  go_ret2
  exact ⟨B, m, d, l, f, rfl, hsl, hm, hmd, hb⟩
include hs hby in
set_option maxHeartbeats 4000000 in
theorem drawIsStuck_any : Calls Try.prog 37 #[.slice A n c] w (DrS2 w) := by
  have HB := Lib.hid (fun W hW => series_any w w.heap.size A n c 0 code hs hby (by omega) W hW)
  have HP := pick_all w w.heap.size A n c code hs hby
  have HA := among_all w w.heap.size A n c code hs hby
  have hgw : w.heap.size < (w.alloc (.cells #[.slice A n c, .int .i64 0, .int .u64 0] 93)).heap.size := by simp
  have HC0 : Hid (Cur w w.heap.size A n c 0 (w.alloc (.cells #[.slice A n c, .int .i64 0, .int .u64 0] 93))) := ⟨(Bl.refl w).alloc _, Nat.le_refl _, 0, 0, Nat.le_refl _, heap_alloc_new w _⟩
  clear hs hby
  go_enter Try.func37, Try.ntmps37
  go_wp2_with fail
  refine (HB.out _ HC0.out).mono ?_
  rintro e w1 ⟨B, m, d, l, rfl, ho, hl, hm, hd⟩
  have HOR := Lib.hid (World.ownsRow.alloc ho (.cells #[.int .i64 2, .int .i64 3, .int .i64 4, .int .i64 10, .int .i64 20, .int .i64 1, .int .i64 21] 3))
  have HL := Lib.hid hl
  have hgw1 : w.heap.size < w1.heap.size := Nat.lt_of_lt_of_le hgw hd.le
  have HC := Lib.hid (hd.cur.bl ((Bl.refl w1).alloc (.cells #[.int .i64 2, .int .i64 3, .int .i64 4, .int .i64 10, .int .i64 20, .int .i64 1, .int .i64 21] 3)))
  have HD := Lib.hid (hd.bl ((Bl.refl w1).alloc (.cells #[.int .i64 2, .int .i64 3, .int .i64 4, .int .i64 10, .int .i64 20, .int .i64 1, .int .i64 21] 3)))
  clear ho hl hd
  go_wp2_with fail
  refine (HP.out _ (by omega) 24 (by omega) (by omega) _ HC.out).mono ?_
  rintro e w2 ⟨x, rfl, ⟨x0, x1⟩, hd⟩
  have HSL := Lib.hid (hd.sl (sl_lit w1 3 [2, 3, 4, 10, 20, 1, 21] (le_top (by decide))) (new_ne hgw1))
  have HOR := Lib.hid (hd.keep hgw HOR.out)
  have HD := Lib.hid (HD.out.trans hd)
  clear hd HC
  have hx : x ≤ 23 := by omega
  have hq : Int.tdiv x 11 = 0 ∨ Int.tdiv x 11 = 1 ∨ Int.tdiv x 11 = 2 := by
    rw [Int.tdiv_eq_ediv_of_nonneg x0]; omega
  clear x1
  rcases hq with hq | hq | hq
  · go_wp2_with fail
    refine (HA.out _ (by omega) _ 5 _ _ (by decide) (by decide) _ (HSL.out.take_ (i := 5) (by decide)) (new_ne hgw1) HD.out.cur).mono ?_
    rintro e w3 ⟨y, rfl, _, hd⟩
    have HOR := Lib.hid (hd.keep hgw HOR.out)
    have HD := Lib.hid (HD.out.trans hd)
    clear hd
    go_wp2_with fail
    go_ret2
    exact ⟨B, m, d, l, y, rfl, Sl.of_own ci_len HOR.out HL.out (by omega), hm, own_cap HOR.out, HD.out.cur.1⟩
  · go_wp2_with fail
    refine (HA.out _ (by omega) _ 6 _ _ (by decide) (by decide) _ (HSL.out.take_ (i := 6) (by decide)) (new_ne hgw1) HD.out.cur).mono ?_
    rintro e w3 ⟨y, rfl, _, hd⟩
    have HOR := Lib.hid (hd.keep hgw HOR.out)
    have HD := Lib.hid (HD.out.trans hd)
    clear hd
    go_wp2_with fail
    go_ret2
    exact ⟨B, m, d, l, y, rfl, Sl.of_own ci_len HOR.out HL.out (by omega), hm, own_cap HOR.out, HD.out.cur.1⟩
  · go_wp2_with fail
    refine (HA.out _ (by omega) _ 7 _ _ (by decide) (by decide) _ (HSL.out.take_ (i := 7) (by decide)) (new_ne hgw1) HD.out.cur).mono ?_
    rintro e w3 ⟨y, rfl, _, hd⟩
    have HOR := Lib.hid (hd.keep hgw HOR.out)
    have HD := Lib.hid (HD.out.trans hd)
    clear hd
    go_wp2_with fail
    go_ret2
    exact ⟨B, m, d, l, y, rfl, Sl.of_own ci_len HOR.out HL.out (by omega), hm, own_cap HOR.out, HD.out.cur.1⟩
end
end Go.Proofs.Ytmnbbnboaokgjaa
