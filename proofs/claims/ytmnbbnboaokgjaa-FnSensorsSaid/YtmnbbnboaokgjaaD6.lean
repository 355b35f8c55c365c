/- The contracts of what is drawn of chapter 6: levels, bounds. -/
import Derived.Test.YtmnbbnboaokgjaaD1
import Derived.Test.YtmnbbnboaokgjaaC6b
namespace Go.Proofs.Ytmnbbnboaokgjaa
open Go.RowKit
theorem le_top {n : Nat} (h : n ≤ 1000) : n ≤ topLen := by rw [topLen_eq]; omega
theorem sl_lit (w : World) (T : TypeId) (l : List Int) (hl : l.length ≤ topLen) : Sl ci 1 (w.alloc (.cells (l.map (Value.int .i64)).toArray T)) (some ⟨w.heap.size, 0, none⟩) l.length l := by
  refine ⟨rfl, hl, fun _ => ⟨_, 0, rfl, fun i x hi j u hu => ?_⟩⟩
  match j, hu with
  | 0, hu =>
    have := Option.some.inj hu
    subst this
    rw [Nat.mul_one, Nat.zero_add, Nat.add_zero, cell_of_row _ _ i _ T (0, 0) (heap_alloc_new w _)]
    simp [hi]
  | j + 1, hu => simp [ci] at hu
theorem Bound.one (p : Bound) : ∀ u ∈ p.cs, u.oneCell' = true := by intro u hu; simp [Bound.cs] at hu; rcases hu with rfl | rfl <;> rfl
theorem bnd_snoc {w : World} {B E m : Nat} {v : Value} {l : List Bound} {y : Bound} (h : w.ownsRow B E 2 v m (l.flatMap Bound.cs ++ Bound.cs y)) : ∃ l' : List Bound, l'.length = l.length + 1 ∧ w.ownsRow B E 2 v m (l'.flatMap Bound.cs) :=
  ⟨l ++ [y], by simp, by rw [List.flatMap_append]; simpa using h⟩
def lenOfV : Value → Nat
  | .slice _ m _ => m
  | _ => 0
set_option maxHeartbeats 2000000 in
theorem level6_any (z : World) (g : Nat) (A : Option Addr) (n c k : Nat) (code : List Int) (hs : Sl cb 1 z A n code) (hby : Bytes code) (hk : k ≤ 100000) (w : World) (h : Cur z g A n c k w) :
    Calls Try.prog 107 #[.pointer (some ⟨g, 0, none⟩)] w (DrInt (fun _ => True) z g A n c (k + 4) w) := by
  have HP := pick_all z g A n c code hs hby
  have HA := among_all z g A n c code hs hby
  have hgw := h.lt
  have HD := Lib.hid (Dr.refl h)
  have HC := Lib.hid (h.bl ((Bl.refl w).alloc (.cells #[.int .i64 0, .int .i64 100, .int .i64 100, .int .i64 101, .int .i64 103, .int .i64 110, .int .i64 500, .int .i64 2000, .int .i64 (-1), .int .i64 2001] 3)))
  have HD0 := Lib.hid ((Dr.refl h).bl ((Bl.refl w).alloc (.cells #[.int .i64 0, .int .i64 100, .int .i64 100, .int .i64 101, .int .i64 103, .int .i64 110, .int .i64 500, .int .i64 2000, .int .i64 (-1), .int .i64 2001] 3)))
  clear h hs hby
  go_enter Try.func107, Try.ntmps107
  go_wp2_with fail
  refine (HP.out _ (by omega) 60 (by omega) (by omega) _ HC.out).mono ?_
  rintro e w1 ⟨x, rfl, ⟨x0, x1⟩, hd⟩
  have HSL := Lib.hid (hd.sl (sl_lit w 3 [0, 100, 100, 101, 103, 110, 500, 2000, -1, 2001] (le_top (by decide))) (new_ne hgw))
  have HD1 := Lib.hid (HD0.out.trans hd)
  clear hd HC HD0
  have hx : x ≤ 59 := by omega
  have hq : Int.tdiv x 29 = 0 ∨ Int.tdiv x 29 = 1 ∨ Int.tdiv x 29 = 2 := by
    rw [Int.tdiv_eq_ediv_of_nonneg x0]; omega
  clear x1
  rcases hq with hq | hq | hq
  · go_wp2_with fail
    refine (HA.out _ (by omega) _ 8 _ _ (by decide) (by decide) _ (HSL.out.take_ (i := 8) (by decide)) (new_ne hgw) HD1.out.cur).mono ?_
    rintro e w2 ⟨y, rfl, _, hd⟩
    have HD2 := Lib.hid (HD1.out.trans hd)
    clear hd
    go_wp2_with fail
    go_ret
    exact ⟨_, rfl, trivial, HD2.out⟩
  · go_wp2_with fail
    refine (HA.out _ (by omega) _ 9 _ _ (by decide) (by decide) _ (HSL.out.take_ (i := 9) (by decide)) (new_ne hgw) HD1.out.cur).mono ?_
    rintro e w2 ⟨y, rfl, _, hd⟩
    have HD2 := Lib.hid (HD1.out.trans hd)
    clear hd
    go_wp2_with fail
    go_ret
    exact ⟨_, rfl, trivial, HD2.out⟩
  · go_wp2_with fail
    refine (HA.out _ (by omega) _ 10 _ _ (by decide) (by decide) _ (HSL.out.take_ (i := 10) (by decide)) (new_ne hgw) HD1.out.cur).mono ?_
    rintro e w2 ⟨y, rfl, _, hd⟩
    have HD2 := Lib.hid (HD1.out.trans hd)
    clear hd
    go_wp2_with fail
    go_ret
    exact ⟨_, rfl, trivial, HD2.out⟩
theorem level6_all (z : World) (g : Nat) (A : Option Addr) (n c : Nat) (code : List Int) (hs : Sl cb 1 z A n code) (hby : Bytes code) : Hid (∀ k, k ≤ 100000 → ∀ w, Cur z g A n c k w → Calls Try.prog 107 #[.pointer (some ⟨g, 0, none⟩)] w (DrInt (fun _ => True) z g A n c (k + 4) w)) :=
  fun k hk w h => level6_any z g A n c k code hs hby hk w h
/-- A list of bounds that has been drawn. -/
def DrBnd (z : World) (g : Nat) (A : Option Addr) (n c k : Nat) (w : World) (e : Ending) (w' : World) : Prop :=
  ∃ (B : Option Addr) (m d : Nat) (l : List Bound), e = .returned (.slice B m d) ∧ Sl Bound.cs 2 w' B m l ∧ m ≤ 20 ∧ (∀ b o s, B = some ⟨b, o, s⟩ → b ≠ g) ∧ Dr z g A n c k w w'
theorem DrBnd.own {z w w' : World} {g n c k m d : Nat} {A B : Option Addr} {l : List Bound} (hgw : g < w.heap.size) (ho : w'.ownsRow w.heap.size 25 2 (.slice B m d) m (l.flatMap Bound.cs)) (hl : l.length = m) (hm : m ≤ 20) (hd : Dr z g A n c k w w') : DrBnd z g A n c k w (.returned (.slice B m d)) w' :=
  ⟨B, m, d, l, rfl, Sl.of_own Bound.cs_len ho hl (by omega), hm, own_ne ho hgw, hd⟩
set_option maxRecDepth 100000 in
set_option maxHeartbeats 8000000 in
theorem bounds_any (z : World) (g : Nat) (A : Option Addr) (n c k : Nat) (code : List Int) (hs : Sl cb 1 z A n code) (hby : Bytes code) (hk : k ≤ 10000) (w : World) (h : Cur z g A n c k w) :
    Calls Try.prog 73 #[.pointer (some ⟨g, 0, none⟩)] w (DrBnd z g A n c (k + 200) w) := by
  have HP := pick_all z g A n c code hs hby
  have HA := among_all z g A n c code hs hby
  have H6 := level6_all z g A n c code hs hby
  have hgw := h.lt
  have HC := Lib.hid (h.bl ((Bl.refl w).alloc (.cells #[] 25)))
  have HD0 := Lib.hid ((Dr.refl h).bl ((Bl.refl w).alloc (.cells #[] 25)))
  have HM := Lib.hid (made_at Bound.cs 2 w 25 w.heap.size _ rfl (Nat.le_refl _))
  clear h hs hby
  go_enter Try.func73, Try.ntmps73
  go_wp2_with fail
  refine (HP.out k (by omega) 6 (by omega) (by omega) _ HC.out).mono ?_
  rintro e w1 ⟨x, rfl, ⟨x0, x1⟩, hd⟩
  have HM1 := Lib.hid (hd.keep hgw HM.out)
  have HD1 := Lib.hid (HD0.out.trans hd)
  obtain ⟨j0, rfl⟩ := Int.eq_ofNat_of_zero_le x0
  have hj0 : j0 ≤ 5 := by omega
  clear hd HC HM x0 x1
  go_wp2_with fail
  go_loopw [3, 4] (fun u v wr => ∃ (j : Nat) (B : Option Addr) (m d : Nat) (l : List Bound), j + m ≤ 6 ∧ v = .int .i64 j ∧ u = .slice B m d ∧ l.length = m ∧ wr.ownsRow w.heap.size 25 2 (.slice B m d) m (l.flatMap Bound.cs) ∧ Dr z g A n c (k + 62 - 10 * j) w wr) (fun _ v _ => (intOf v).toNat)
  case atStart => exact ⟨1 + j0, _, 0, 0, [], by omega, by congr 1, rfl, rfl, HM1.out, HD1.out.up (by omega)⟩
  case round =>
    clear HM1 HD1 HD0 hj0
    obtain ⟨j, B, m, d, l, hj, rfl, rfl, hl, hor, hd⟩ := hrel
    have HL := Lib.hid hl
    have HOR := Lib.hid hor
    have HD := Lib.hid hd
    clear hl hor hd
    by_cases hj0 : 0 < j
    · go_wp2_with fail
      refine (HA.out _ (by omega) _ 6 _ [0, 90, 95, 100, 105, 300] (by decide) (by decide) _ (sl_lit _ 3 [0, 90, 95, 100, 105, 300] (le_top (by decide))) (new_ne (Nat.lt_of_lt_of_le hgw HD.out.le)) (HD.out.cur.bl ((Bl.refl _).alloc _))).mono ?_
      rintro e w' ⟨y, rfl, _, hd⟩
      have HOR := Lib.hid (hd.keep hgw (World.ownsRow.alloc HOR.out _))
      have HD := Lib.hid ((HD.out.bl ((Bl.refl _).alloc _)).trans hd)
      clear hd
      go_wp2_with fail
      refine (HA.out _ (by omega) _ 5 _ [0, 5, 10, 20, 200] (by decide) (by decide) _ (sl_lit _ 3 [0, 5, 10, 20, 200] (le_top (by decide))) (new_ne (Nat.lt_of_lt_of_le hgw HD.out.le)) (HD.out.cur.bl ((Bl.refl _).alloc _))).mono ?_
      rintro e w' ⟨y2, rfl, _, hd⟩
      have HOR := Lib.hid (hd.keep hgw (World.ownsRow.alloc HOR.out _))
      have HD := Lib.hid ((HD.out.bl ((Bl.refl _).alloc _)).trans hd)
      clear hd
      have ho9 := HOR.out
      have hb9 := HD.out.le
      obtain ⟨i0, hi0, hz0, hz1, hz2⟩ := info_parts infoBound
      go_wp2_with (at_builtin; refine wpList_append_one _ rfl _ _ _ rfl _ 25 i0 _ 2 16 Try.underlying28 hi0 hz0 hz1 hz2 rfl (by omega) Bound.cs_len Bound.one _ m l rfl ⟨_, _⟩ _ rfl (by first | rfl | simp) _ rfl ho9 hb9 (by unfold maxLen; omega) (by omega) ?_)
      clear hi0 hz0 hz1 hz2
      intro B6 d6 w6 ho6 hg6
      obtain ⟨l6, hl6, ho6'⟩ := bnd_snoc ho6
      have HOR6 := Lib.hid ho6'
      have HD6 := Lib.hid (HD.out.app hgw ho9 hg6)
      have HL6 := Lib.hid (hl6.trans (congrArg (· + 1) HL.out))
      clear ho6 ho6' hg6 hl6 ho9 hb9
      go_wp2_with fail
      first | exact ⟨⟨j - 1, B6, m + 1, d6, l6, by omega, by congr 1; omega, rfl, HL6.out, HOR6.out, HD6.out.up (by omega)⟩, by simp [intOf]; omega⟩ | (refine ⟨?_, by simp [intOf]; omega⟩; (repeat apply Exists.intro); exact ⟨⟨j - 1, B6, m + 1, d6, l6, by omega, by congr 1; omega, rfl, HL6.out, HOR6.out, HD6.out.up (by omega)⟩, rfl⟩)
    · obtain rfl : j = 0 := by omega
      go_wp2_with fail
      refine (HP.out _ (by omega) 30 (by omega) (by omega) _ HD.out.cur).mono ?_
      rintro e w' ⟨t, rfl, ⟨t0, t1⟩, hd⟩
      have HOR := Lib.hid (hd.keep hgw HOR.out)
      have HD := Lib.hid (HD.out.trans hd)
      clear hd
      by_cases ht0 : t = 0
      · subst ht0
        go_wp2_with fail
        refine (H6.out _ (by omega) _ HD.out.cur).mono ?_
        rintro e w2 ⟨y, rfl, _, hd⟩
        have HOR := Lib.hid (hd.keep hgw HOR.out)
        have HD := Lib.hid (HD.out.trans hd)
        clear hd
        go_wp2_with fail
        refine (H6.out _ (by omega) _ HD.out.cur).mono ?_
        rintro e w3 ⟨y2, rfl, _, hd⟩
        have HOR := Lib.hid (hd.keep hgw HOR.out)
        have HD := Lib.hid (HD.out.trans hd)
        clear hd
        have ho9 := HOR.out
        have hb9 := HD.out.le
        obtain ⟨i0, hi0, hz0, hz1, hz2⟩ := info_parts infoBound
        go_wp2_with (at_builtin; refine wpList_append_one _ rfl _ _ _ rfl _ 25 i0 _ 2 16 Try.underlying28 hi0 hz0 hz1 hz2 rfl (by omega) Bound.cs_len Bound.one _ m l rfl ⟨_, _⟩ _ rfl (by first | rfl | simp) _ rfl ho9 hb9 (by unfold maxLen; omega) (by omega) ?_)
        clear hi0 hz0 hz1 hz2
        intro B6 d6 w6 ho6 hg6
        obtain ⟨l6, hl6, ho6'⟩ := bnd_snoc ho6
        have HOR6 := Lib.hid ho6'
        have HD6 := Lib.hid (HD.out.app hgw ho9 hg6)
        have HL6 := Lib.hid (hl6.trans (congrArg (· + 1) HL.out))
        clear ho6 ho6' hg6 hl6 ho9 hb9
        go_wp2_with fail
        go_ret
        exact DrBnd.own hgw HOR6.out HL6.out (by omega) (HD6.out.up (by omega))
      have hq0 : (t == 0) = false := by simpa using ht0
      by_cases ht1 : t = 1
      · subst ht1
        clear ht0 hq0
        go_wp2_with fail
        go_loopw [3] (fun u wr => ∃ (B : Option Addr) (m d : Nat) (l : List Bound), u = .slice B m d ∧ l.length = m ∧ m ≤ 9 ∧ wr.ownsRow w.heap.size 25 2 (.slice B m d) m (l.flatMap Bound.cs) ∧ Dr z g A n c (k + 100 + 2 * m) w wr) (fun u _ => 9 - lenOfV u)
        case atStart => exact ⟨B, m, d, l, rfl, HL.out, by omega, HOR.out, HD.out.up (by omega)⟩
        case round =>
          clear HL HOR HD
          obtain ⟨B, m, d, l, rfl, hl, hm, hor, hd⟩ := hrel
          have HL := Lib.hid hl
          have HOR := Lib.hid hor
          have HD := Lib.hid hd
          clear hl hor hd
          go_wp2_with fail
          refine (HP.out _ (by omega) 2 (by omega) (by omega) _ HD.out.cur).mono ?_
          rintro e w' ⟨p, rfl, ⟨p0, p1⟩, hd⟩
          have HOR := Lib.hid (hd.keep hgw HOR.out)
          have HD := Lib.hid (HD.out.trans hd)
          clear hd
          by_cases h1 : (m : Int) < 8 + p
          · have ho9 := HOR.out
            have hb9 := HD.out.le
            obtain ⟨i0, hi0, hz0, hz1, hz2⟩ := info_parts infoBound
            go_wp2_with (at_builtin; refine wpList_append_one _ rfl _ _ _ rfl _ 25 i0 _ 2 16 Try.underlying28 hi0 hz0 hz1 hz2 rfl (by omega) Bound.cs_len Bound.one _ m l rfl ⟨_, _⟩ _ rfl (by first | rfl | simp) _ rfl ho9 hb9 (by unfold maxLen; omega) (by omega) ?_)
            clear hi0 hz0 hz1 hz2
            intro B6 d6 w6 ho6 hg6
            obtain ⟨l6, hl6, ho6'⟩ := bnd_snoc ho6
            have HOR6 := Lib.hid ho6'
            have HD6 := Lib.hid (HD.out.app hgw ho9 hg6)
            have HL6 := Lib.hid (hl6.trans (congrArg (· + 1) HL.out))
            clear ho6 ho6' hg6 hl6 ho9 hb9
            go_wp2_with fail
            refine ⟨⟨B6, m + 1, d6, l6, rfl, HL6.out, by omega, HOR6.out, HD6.out.up (by omega)⟩, by simp [lenOfV]; omega⟩
          · go_wp2_with fail
            go_ret
            exact DrBnd.own hgw HOR.out HL.out (by omega) (HD.out.up (by omega))
      have hq1 : (t == 1) = false := by simpa using ht1
      by_cases ht2 : t = 2
      · subst ht2
        clear ht0 hq0 ht1 hq1
        have hcap := own_cap HOR.out
        have HS0 := Lib.hid ((Sl.of_own Bound.cs_len HOR.out HL.out (by omega)).take_ (i := 0) (Nat.zero_le _))
        have HN0 := Lib.hid (own_ne HOR.out hgw)
        rcases own_forms HOR.out with ⟨rfl, h0, h00, _⟩ | ⟨g0, rfl⟩
        · subst h0 h00
          go_wp2_with fail
          go_ret
          exact ⟨_, 0, _, _, rfl, HS0.out, by omega, HN0.out, HD.out.up (by omega)⟩
        · go_wp2_with fail
          go_ret
          exact ⟨_, 0, _, _, rfl, HS0.out, by omega, HN0.out, HD.out.up (by omega)⟩
      · have hq2 : (t == 2) = false := by simpa using ht2
        go_wp2_with fail
        go_ret
        exact DrBnd.own hgw HOR.out HL.out (by omega) (HD.out.up (by omega))
/-- Bounds. -/
def DrB1 (w : World) (e : Ending) (w' : World) : Prop :=
  ∃ (B : Option Addr) (m d : Nat) (l : List Bound), e = .returned (.slice B m d) ∧ Sl Bound.cs 2 w' B m l ∧ m ≤ 20 ∧ Bl w w'
/-- Bounds, a number of faults. -/
def DrB2 (w : World) (e : Ending) (w' : World) : Prop :=
  ∃ (B : Option Addr) (m d : Nat) (l : List Bound) (f : Int), e = .returned (.tuple #[.slice B m d, .int .i64 f]) ∧ Sl Bound.cs 2 w' B m l ∧ m ≤ 20 ∧ -1 ≤ f ∧ f ≤ 20 ∧ Bl w w'
section
variable (A : Option Addr) (n c : Nat) (code : List Int) (w : World) (hs : Sl cb 1 w A n code) (hby : Bytes code)
include hs hby in
set_option maxHeartbeats 2000000 in
theorem drawCommonBound_any : Calls Try.prog 30 #[.slice A n c] w (DrB1 w) := by
  have HB := Lib.hid (fun W hW => bounds_any w w.heap.size A n c 0 code hs hby (by omega) W hW)
  have HC0 : Hid (Cur w w.heap.size A n c 0 (w.alloc (.cells #[.slice A n c, .int .i64 0, .int .u64 0] 93))) := ⟨(Bl.refl w).alloc _, Nat.le_refl _, 0, 0, Nat.le_refl _, heap_alloc_new w _⟩
  clear hs hby
  go_enter Try.func30, Try.ntmps30
  go_wp2_with fail
  refine (HB.out _ HC0.out).mono ?_
  rintro e w1 ⟨B, m, d, l, rfl, hsl, hm, hne, hd⟩
  have HSL := Lib.hid hsl
  have HD := Lib.hid hd
  clear hsl hd
  go_wp2_with fail
  go_ret
  exact ⟨B, m, d, l, rfl, HSL.out, hm, HD.out.cur.1⟩
include hs hby in
set_option maxHeartbeats 2000000 in
theorem drawFewestFaults_any : Calls Try.prog 27 #[.slice A n c] w (DrB1 w) := by
  have HB := Lib.hid (drawCommonBound_any A n c code w hs hby)
  clear hs hby
  go_enter Try.func27, Try.ntmps27
  go_wp2_with fail
  refine HB.out.mono ?_
  rintro e w1 ⟨B, m, d, l, rfl, hsl, hm, hb⟩
  go_wp2_with fail
  go_ret
  exact ⟨B, m, d, l, rfl, hsl, hm, hb⟩
include hs hby in
set_option maxHeartbeats 2000000 in
theorem drawTrustedBound_any : Calls Try.prog 24 #[.slice A n c] w (DrB2 w) := by
  have HB := Lib.hid (fun W hW => bounds_any w w.heap.size A n c 0 code hs hby (by omega) W hW)
  have HP := pick_all w w.heap.size A n c code hs hby
  have HC0 : Hid (Cur w w.heap.size A n c 0 (w.alloc (.cells #[.slice A n c, .int .i64 0, .int .u64 0] 93))) := ⟨(Bl.refl w).alloc _, Nat.le_refl _, 0, 0, Nat.le_refl _, heap_alloc_new w _⟩
  clear hs hby
  go_enter Try.func24, Try.ntmps24
  go_wp2_with fail
  refine (HB.out _ HC0.out).mono ?_
  rintro e w1 ⟨B, m, d, l, rfl, hsl, hm, hne, hd⟩
  have HSL := Lib.hid hsl
  have HNE := Lib.hid hne
  have HD := Lib.hid hd
  clear hsl hd hne
  go_wp2_with fail
  refine (HP.out _ (by omega) ((m : Int) + 1) (by omega) (by omega) _ HD.out.cur).mono ?_
  rintro e w2 ⟨x, rfl, ⟨x0, x1⟩, hd⟩
  have HSL := Lib.hid (hd.sl HSL.out HNE.out)
  have HD := Lib.hid (HD.out.trans hd)
  clear hd
  go_wp2_with fail
  refine (HP.out _ (by omega) 16 (by omega) (by omega) _ HD.out.cur).mono ?_
  rintro e w3 ⟨y, rfl, ⟨y0, y1⟩, hd⟩
  have HSL := Lib.hid (hd.sl HSL.out HNE.out)
  have HD := Lib.hid (HD.out.trans hd)
  clear hd
  have hx1 : x ≤ m := by omega
  have hq : Int.tdiv y 15 = 0 ∨ Int.tdiv y 15 = 1 := by
    rw [Int.tdiv_eq_ediv_of_nonneg y0]; omega
  clear x1 y1
  rcases hq with hq | hq
  · go_wp2_with fail
    go_ret2
    exact ⟨B, m, d, l, x, by first | rfl | simp, HSL.out, hm, by omega, by omega, HD.out.cur.1⟩
  · go_wp2_with fail
    go_ret2
    exact ⟨B, m, d, l, x - 1, by first | rfl | simp, HSL.out, hm, by omega, by omega, HD.out.cur.1⟩
end
end Go.Proofs.Ytmnbbnboaokgjaa
