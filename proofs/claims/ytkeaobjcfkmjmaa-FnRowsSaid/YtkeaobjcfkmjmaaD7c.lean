/- The contract of what is drawn for IsSafeRow: a row and its cells. -/
import Derived.Test.YtkeaobjcfkmjmaaD7b
import Derived.Test.YtkeaobjcfkmjmaaC7d
import Derived.Test.YtkeaobjcfkmjmaaD3
import Derived.Test.YtkeaobjcfkmjmaaQ7e
import Derived.Deep.RegionHeld3
import Derived.Deep.CutRange
namespace Go.Proofs.Ytkeaobjcfkmjmaa
open Go.RowKit
theorem int_snoc {w : World} {B E m : Nat} {v : Value} {l : List Int} {y : Int} (h : w.ownsRow B E 1 v m (l.flatMap ci ++ ci y)) : ∃ l' : List Int, l'.length = l.length + 1 ∧ w.ownsRow B E 1 v m (l'.flatMap ci) :=
  ⟨l ++ [y], by simp, by rw [List.flatMap_append]; simpa using h⟩
theorem int_set9 {l : List Int} {i : Nat} {x : Int} (h : l[i]? = some x) (a : Int) : (l.flatMap ci).set i (.int .i64 a) = (l.set i a).flatMap ci := by
  have := flat_set ci 1 ci_len l i x a h 0 (by omega) (.int .i64 a) rfl
  rwa [Nat.mul_one, Nat.add_zero] at this
/-- A slice isn't touched by a store elsewhere. -/
theorem sl_oth' {α : Type} {f : α → List Value} {k n g j : Nat} {w : World} {A : Option Addr} {l : List α} {u : Value} (h : Sl f k w A n l) (hne : 0 < n → ∀ b o s, A = some ⟨b, o, s⟩ → b ≠ g) : Sl f k (w.setCell ⟨g, j, none⟩ u) A n l :=
  ⟨h.1, h.2.1, fun h0 => let ⟨b, o, e, hc⟩ := h.2.2 h0; ⟨b, o, e, fun i x hi q v hv => (World.cell?_of_block (Below.heap_setCell _ _ _ _ (hne h0 b o none e))).trans (hc i x hi q v hv)⟩⟩
theorem car_lt {w : World} {A : Option Addr} {n : Nat} {l : List Cargo} (h : Sl Cargo.cs 3 w A n l) (hn : 0 < n) : ∀ b o s, A = some ⟨b, o, s⟩ → b < w.heap.size := by
  rintro b o s rfl
  obtain ⟨b1, o1, p, e, _, c, _⟩ := h.Cargo hn
  injection e with e; injection e with e1 _ _
  subst e1
  exact World.block_lt_of_cell? w _ (c _ (Bl.refl _))
theorem place_len (l : List Cargo) : (placeR l).1.length ≤ l.length := by
  unfold placeR
  split
  · rename_i h; exact Nat.le_of_eq (pk_all h _ (Nat.le_refl _)).len
  · simp
theorem cell_own {w : World} {B E g n c k : Nat} {l : List Int} {x : Int} (h : w.ownsRow B E 1 (.slice (some ⟨g, 0, none⟩) n c) n (l.flatMap ci)) (_ : l.length = n) (hx : l[k]? = some x) : w.cell? ⟨g, k, none⟩ = some (.int .i64 x) := by
  have := World.ownsRow.cells h (g := g) rfl k (.int .i64 x) (ints_get hx)
  rwa [show (⟨g, 0, none⟩ : Addr).add k = ⟨g, k, none⟩ by rw [Addr.add_lit, Nat.zero_add]] at this
/-- A row, its cells. -/
def DrR2 (w : World) (e : Ending) (w' : World) : Prop :=
  ∃ (B : Option Addr) (m d : Nat) (l : List Cargo) (C : Option Addr) (p f : Nat) (cs : List Int), e = .returned (.tuple #[.slice B m d, .slice C p f]) ∧ Sl Cargo.cs 3 w' B m l ∧ m ≤ 7 ∧ m ≤ d ∧ Sl ci 1 w' C p cs ∧ p ≤ f ∧ Bl w w'
set_option maxRecDepth 100000 in
set_option maxHeartbeats 8000000 in
theorem drawIsSafeRow_any (A : Option Addr) (n c : Nat) (code : List Int) (w : World) (hs : Sl cb 1 w A n code) (hby : Bytes code) : Calls Try.prog 49 #[.slice A n c] w (DrR2 w) := by
  have HB := Lib.hid (fun W hW => cargos_any w w.heap.size A n c 0 code hs hby (by omega) 5 (by omega) W hW)
  have HP := pick_all w w.heap.size A n c code hs hby
  have HO := one_all w w.heap.size A n c code hs hby
  have HA := among_all w w.heap.size A n c code hs hby
  have hgw : w.heap.size < w.heap.size + 1 := by omega
  obtain ⟨w0, hw0⟩ : ∃ w0, w0 = w.alloc (.cells #[.slice A n c, .int .i64 0, .int .u64 0] 78) := ⟨_, rfl⟩
  have HC0 : Hid (Cur w w.heap.size A n c 0 w0) := by rw [hw0]; exact ⟨(Bl.refl w).alloc _, Nat.le_refl _, 0, 0, Nat.le_refl _, heap_alloc_new w _⟩
  have hz0 : w0.heap.size = w.heap.size + 1 := by rw [hw0]; simp
  clear hs hby
  go_enter Try.func49, Try.ntmps49
  go_wp2_with fail
  rw [← hw0]
  refine (HB.out _ HC0.out).mono ?_
  rintro e w1 ⟨B, m, d, l, rfl, hsl, hm, hmd, hne, hd⟩
  have HSL := Lib.hid hsl
  have HNE := Lib.hid hne
  have HD := Lib.hid hd
  have HLT := Lib.hid (fun (h0 : 0 < m) => car_lt hsl h0)
  have hz1 : w.heap.size + 1 ≤ w1.heap.size := by rw [← hz0]; exact hd.le
  have H1 := Lib.hid (specPlaceRow_any B m d l w1 hsl hmd)
  clear hsl hne hd hw0 HC0
  go_wp2_with fail
  refine H1.out.mono ?_
  rintro e w2 ⟨C, p, q, rfl, ho, hl, hp, hbn⟩
  have HSL := Lib.hid (HSL.out.bl hbn)
  have HD := Lib.hid (HD.out.bl hbn)
  have HOC := Lib.hid ho
  have HLC := Lib.hid hl
  have hp7 : p ≤ 7 := by have h9 := place_len l; rw [hl, HSL.out.1] at h9; omega
  generalize placeR l = R at *
  obtain ⟨ps, ok⟩ := R
  (try simp only at HOC HLC)
  clear H1 ho hl hbn
  go_upto_region 4 with fail
  go_cut [25] from 21 to 25 (fun s wx => (∃ b : Bool, s = .bool b) ∧ Dr w w.heap.size A n c 210 w0 wx ∧ Sl Cargo.cs 3 wx B m l ∧ wx.ownsRow w1.heap.size 3 1 (.slice C p q) p (ps.flatMap ci))
  case first =>
    cases ok
    · go_wp2_with fail
      (first | (go_meet; exact ⟨⟨_, rfl⟩, HD.out.up (by omega), HSL.out, HOC.out⟩) | ((repeat apply Exists.intro); exact ⟨⟨⟨_, rfl⟩, HD.out.up (by omega), HSL.out, HOC.out⟩, rfl⟩))
    · go_wp2_with fail
      refine (HO.out _ (by omega) 2 (by omega) (by omega) _ HD.out.cur).mono ?_
      rintro e w3 ⟨b, rfl, hd⟩
      have HSL := Lib.hid (hd.sl HSL.out HNE.out)
      have HOC := Lib.hid (hd.keep (by omega) HOC.out)
      have HD := Lib.hid (HD.out.trans hd)
      clear hd
      go_wp2_with fail
      (first | (go_meet; exact ⟨⟨_, rfl⟩, HD.out.up (by omega), HSL.out, HOC.out⟩) | ((repeat apply Exists.intro); exact ⟨⟨⟨_, rfl⟩, HD.out.up (by omega), HSL.out, HOC.out⟩, rfl⟩))
  case rest =>
  obtain ⟨⟨b, rfl⟩, hD, hS, hC⟩ := hcut
  have HD := Lib.hid hD
  have HSL := Lib.hid hS
  have HOC := Lib.hid hC
  clear hD hS hC
  cases b
  case true =>
    by_cases hp0 : 0 < p
    case neg =>
      obtain rfl : p = 0 := by omega
      go_wp2_with fail
      go_ret2
      exact ⟨B, m, d, l, C, 0, q, ps, rfl, HSL.out, hm, hmd, Sl.of_own ci_len HOC.out HLC.out (by omega), own_cap HOC.out, HD.out.cur.1⟩
    go_wp2_with fail
    refine (HO.out _ (by omega) 2 (by omega) (by omega) _ HD.out.cur).mono ?_
    rintro e w3 ⟨b, rfl, hd⟩
    have HSL := Lib.hid (hd.sl HSL.out HNE.out)
    have HOC := Lib.hid (hd.keep (by omega) HOC.out)
    have HD := Lib.hid (HD.out.trans hd)
    clear hd
    cases b
    · go_wp2_with fail
      go_ret2
      exact ⟨B, m, d, l, C, p, q, ps, rfl, HSL.out, hm, hmd, Sl.of_own ci_len HOC.out HLC.out (by omega), own_cap HOC.out, HD.out.cur.1⟩
    · go_wp2_with fail
      refine (HP.out _ (by omega) (p : Int) (by omega) (by omega) _ HD.out.cur).mono ?_
      rintro e w4 ⟨x, rfl, ⟨x0, x1⟩, hd⟩
      have HSL := Lib.hid (hd.sl HSL.out HNE.out)
      have HOC := Lib.hid (hd.keep (by omega) HOC.out)
      have HD := Lib.hid (HD.out.trans hd)
      obtain ⟨k, rfl⟩ := Int.eq_ofNat_of_zero_le x0
      have hk : k < p := by omega
      rcases own_forms HOC.out with ⟨_, h0, _, _⟩ | ⟨gC, rfl⟩
      · omega
      have hgC := ((own_lt HOC.out).out gC rfl).1
      clear hd x0 x1
      have hSC := Sl.of_own ci_len HOC.out HLC.out (by omega)
      obtain ⟨bC, oC, y, hAC, ey, cy⟩ := hSC.int hk
      injection hAC with hAC; injection hAC with hAC hAC'; subst hAC hAC'
      simp only [Nat.zero_add] at cy
      have HEY := Lib.hid ey
      have fy := cy _ (Bl.refl _)
      have hlt4 : w.heap.size < w4.heap.size := HD.out.cur.lt
      have HX := Lib.hid (show Sl ci 1 ((w4.alloc (.cells #[.int .i64 (-1), .int .i64 1, .int .i64 3] 3)).drew) (some ⟨w4.heap.size, 0, none⟩) 3 [-1, 1, 3] from (sl_lit w4 3 [-1, 1, 3] (le_top (by decide))).drew)
      have HNX : Hid (∀ b o s, (some ⟨w4.heap.size, 0, none⟩ : Option Addr) = some ⟨b, o, s⟩ → b ≠ w.heap.size) := new_ne hlt4
      have hbX : Bl w4 ((w4.alloc (.cells #[.int .i64 (-1), .int .i64 1, .int .i64 3] 3)).drew) := ((Bl.refl w4).alloc _).drew
      have HDX := Lib.hid (HD.out.bl hbX)
      have HSX := Lib.hid (HSL.out.bl hbX)
      have HOX := Lib.hid (hbX.own HOC.out)
      have k1 : (0 : Int) ≤ (k : Int) := by omega
      have k2 : (k : Int) < (p : Int) := by omega
      clear hSC ey
      go_wp2_with fail
      go_region_with (first | (go_at_call 69; (with_reducible refine (HA.out _ (by omega) _ _ _ _ (by decide) (by decide) _ HX.out HNX.out HDX.out.cur).mono ?_); rintro e w5 ⟨v, rfl, _, hd⟩; have HS5 := Lib.hid (hd.sl HSX.out HNE.out); have HO5 := Lib.hid (hd.keep (by omega) HOX.out); have HD5 := Lib.hid (HDX.out.trans hd); have fz5 := World.ownsRow.frozenAt HO5.out; have f5 : w5.cell? ⟨gC, k, none⟩ = some (.int .i64 y) := cell_own HO5.out HLC.out HEY.out; have hlt5 := hd.le) | (go_at_call 83; refine (l1Most_any _ _ _).mono ?_; rintro e w6 ⟨rfl, rfl⟩))
      all_goals
        go_wp2_with fail
        go_ret2
        have HOF := own_set HO5.out k (.int .i64 (max 0 (IntKind.i64.wrap (y + v))))
        rw [int_set9 HEY.out] at HOF
        exact ⟨B, m, d, l, _, p, q, _, rfl, sl_oth' HS5.out (fun h0 b o s e => by have := HLT.out h0 b o s e; omega), hm, hmd, Sl.of_own ci_len HOF (by rw [List.length_set]; exact HLC.out) (by omega), own_cap HOF, HD5.out.cur.1.setCell (by show w.heap.size ≤ gC; omega) _⟩
  case false =>
    have HM0 := Lib.hid (made_at ci 1 wc 3 wc.heap.size wc.heap.size rfl (Nat.le_refl _))
    have hzc : w.heap.size + 1 ≤ wc.heap.size := HD.out.cur.lt
    have HLTc := Lib.hid (fun (h0 : 0 < m) => car_lt HSL.out h0)
    have HSL := Lib.hid (HSL.out.bl ((Bl.refl wc).alloc (.cells #[] 3)))
    have HD := Lib.hid (HD.out.bl ((Bl.refl wc).alloc (.cells #[] 3)))
    clear HOC HLC
    go_wp2_with fail
    go_loopw [9, 10] (fun u v wr => ∃ (k : Nat) (C : Option Addr) (f : Nat) (cs : List Int), k ≤ m ∧ v = .int .i64 k ∧ u = .slice C k f ∧ Hid (cs.length = k) ∧ Hid (wr.ownsRow wc.heap.size 3 1 (.slice C k f) k (cs.flatMap ci)) ∧ wc.heap.size ≤ wr.heap.size ∧ Hid (Sl Cargo.cs 3 wr B m l) ∧ Hid (Dr w w.heap.size A n c (220 + 10 * k) w0 wr)) (fun _ v _ => m - (intOf v).toNat)
    case atStart => exact ⟨0, _, 0, [], Nat.zero_le _, rfl, rfl, rfl, HM0.out, by simp, HSL.out, HD.out.up (by omega)⟩
    case round =>
      clear HM0 HSL HD
      obtain ⟨k, C, f, cs, hk, rfl, rfl, HL, HOR, hzr, HSL, HD⟩ := hrel
      have hlt9 : w.heap.size < wr.heap.size := HD.out.cur.lt
      by_cases hlt : k < m
      · have HOR := Lib.hid (World.ownsRow.alloc HOR.out (.cells #[.int .i64 0, .int .i64 3, .int .i64 8, .int .i64 12, .int .i64 20, .int .i64 30, .int .i64 200, .int .i64 (-1), .int .i64 201] 3))
        have HSL := Lib.hid (HSL.out.bl ((Bl.refl wr).alloc (.cells #[.int .i64 0, .int .i64 3, .int .i64 8, .int .i64 12, .int .i64 20, .int .i64 30, .int .i64 200, .int .i64 (-1), .int .i64 201] 3)))
        have HS0 := Lib.hid (sl_lit wr 3 [0, 3, 8, 12, 20, 30, 200, -1, 201] (le_top (by decide)))
        have HNS : Hid (∀ b o s, (some ⟨wr.heap.size, 0, none⟩ : Option Addr) = some ⟨b, o, s⟩ → b ≠ w.heap.size) := new_ne hlt9
        have HD := Lib.hid (HD.out.bl ((Bl.refl wr).alloc (.cells #[.int .i64 0, .int .i64 3, .int .i64 8, .int .i64 12, .int .i64 20, .int .i64 30, .int .i64 200, .int .i64 (-1), .int .i64 201] 3)))
        go_wp2_with fail
        refine (HP.out _ (by omega) 60 (by omega) (by omega) _ HD.out.cur).mono ?_
        rintro e w5 ⟨x, rfl, ⟨x0, x1⟩, hd⟩
        have HSL := Lib.hid (hd.sl HSL.out HNE.out)
        have HS0 := Lib.hid (hd.sl HS0.out HNS.out)
        have HOR := Lib.hid (hd.keep (by omega) HOR.out)
        have HD := Lib.hid (HD.out.trans hd)
        have hz5 := hd.le
        simp at hz5
        clear hd
        have hx : x ≤ 59 := by omega
        have hq : Int.tdiv x 29 = 0 ∨ Int.tdiv x 29 = 1 ∨ Int.tdiv x 29 = 2 := by
          rw [Int.tdiv_eq_ediv_of_nonneg x0]; omega
        clear x1
        rcases hq with hq | hq | hq
        · go_wp2_with fail
          refine (HA.out _ (by omega) _ 7 _ _ (by decide) (by decide) _ (HS0.out.take_ (i := 7) (by decide)) HNS.out HD.out.cur).mono ?_
          rintro e w6 ⟨y, rfl, _, hd⟩
          have HSL := Lib.hid (hd.sl HSL.out HNE.out)
          have HOR := Lib.hid (hd.keep (by omega) HOR.out)
          have HD := Lib.hid (HD.out.trans hd)
          have ho9 := HOR.out
          have hb9 : wc.heap.size ≤ w6.heap.size := by have := hd.le; omega
          clear hd HS0
          obtain ⟨i0, hi0, hz0, hz1, hz2⟩ := info_parts infoInt
          go_wp2_with (at_builtin; refine wpList_append_one _ rfl _ _ _ rfl _ 3 i0 _ 1 8 Try.underlying36 hi0 hz0 hz1 hz2 rfl (by omega) ci_len ci_one _ k cs rfl y _ rfl (by first | rfl | simp) _ rfl ho9 hb9 (by unfold maxLen; omega) (by omega) ?_)
          clear hi0 hz0 hz1 hz2
          intro B6 d6 w7 ho6 hg6
          obtain ⟨l6, hl6, ho6'⟩ := int_snoc ho6
          have HOR6 := Lib.hid ho6'
          have HSL6 := Lib.hid (HSL.out.grown hg6 (fun b o s e e2 => by have h1 := HLTc.out (by omega) b o s e; have h2 := ((own_lt ho9).out b e2.symm).1; omega))
          have HD6 := Lib.hid (HD.out.app (by omega) (own_mono ho9 (by omega)) hg6)
          have HL6 := Lib.hid (hl6.trans (congrArg (· + 1) HL.out))
          have hz7 := hg6.size
          clear ho6 ho6' hg6 hl6 ho9
          go_wp2_with fail
          first | exact ⟨⟨k + 1, B6, d6, l6, by omega, by go_num, rfl, HL6.out, HOR6.out, by omega, HSL6.out, HD6.out.up (by omega)⟩, by simp [intOf]; omega⟩ | (refine ⟨?_, by simp [intOf]; omega⟩; (repeat apply Exists.intro); exact ⟨⟨k + 1, B6, d6, l6, by omega, by go_num, rfl, HL6.out, HOR6.out, by omega, HSL6.out, HD6.out.up (by omega)⟩, rfl⟩)
        · go_wp2_with fail
          refine (HA.out _ (by omega) _ 8 _ _ (by decide) (by decide) _ (HS0.out.take_ (i := 8) (by decide)) HNS.out HD.out.cur).mono ?_
          rintro e w6 ⟨y, rfl, _, hd⟩
          have HSL := Lib.hid (hd.sl HSL.out HNE.out)
          have HOR := Lib.hid (hd.keep (by omega) HOR.out)
          have HD := Lib.hid (HD.out.trans hd)
          have ho9 := HOR.out
          have hb9 : wc.heap.size ≤ w6.heap.size := by have := hd.le; omega
          clear hd HS0
          obtain ⟨i0, hi0, hz0, hz1, hz2⟩ := info_parts infoInt
          go_wp2_with (at_builtin; refine wpList_append_one _ rfl _ _ _ rfl _ 3 i0 _ 1 8 Try.underlying36 hi0 hz0 hz1 hz2 rfl (by omega) ci_len ci_one _ k cs rfl y _ rfl (by first | rfl | simp) _ rfl ho9 hb9 (by unfold maxLen; omega) (by omega) ?_)
          clear hi0 hz0 hz1 hz2
          intro B6 d6 w7 ho6 hg6
          obtain ⟨l6, hl6, ho6'⟩ := int_snoc ho6
          have HOR6 := Lib.hid ho6'
          have HSL6 := Lib.hid (HSL.out.grown hg6 (fun b o s e e2 => by have h1 := HLTc.out (by omega) b o s e; have h2 := ((own_lt ho9).out b e2.symm).1; omega))
          have HD6 := Lib.hid (HD.out.app (by omega) (own_mono ho9 (by omega)) hg6)
          have HL6 := Lib.hid (hl6.trans (congrArg (· + 1) HL.out))
          have hz7 := hg6.size
          clear ho6 ho6' hg6 hl6 ho9
          go_wp2_with fail
          first | exact ⟨⟨k + 1, B6, d6, l6, by omega, by go_num, rfl, HL6.out, HOR6.out, by omega, HSL6.out, HD6.out.up (by omega)⟩, by simp [intOf]; omega⟩ | (refine ⟨?_, by simp [intOf]; omega⟩; (repeat apply Exists.intro); exact ⟨⟨k + 1, B6, d6, l6, by omega, by go_num, rfl, HL6.out, HOR6.out, by omega, HSL6.out, HD6.out.up (by omega)⟩, rfl⟩)
        · go_wp2_with fail
          refine (HA.out _ (by omega) _ 9 _ _ (by decide) (by decide) _ (HS0.out.take_ (i := 9) (by decide)) HNS.out HD.out.cur).mono ?_
          rintro e w6 ⟨y, rfl, _, hd⟩
          have HSL := Lib.hid (hd.sl HSL.out HNE.out)
          have HOR := Lib.hid (hd.keep (by omega) HOR.out)
          have HD := Lib.hid (HD.out.trans hd)
          have ho9 := HOR.out
          have hb9 : wc.heap.size ≤ w6.heap.size := by have := hd.le; omega
          clear hd HS0
          obtain ⟨i0, hi0, hz0, hz1, hz2⟩ := info_parts infoInt
          go_wp2_with (at_builtin; refine wpList_append_one _ rfl _ _ _ rfl _ 3 i0 _ 1 8 Try.underlying36 hi0 hz0 hz1 hz2 rfl (by omega) ci_len ci_one _ k cs rfl y _ rfl (by first | rfl | simp) _ rfl ho9 hb9 (by unfold maxLen; omega) (by omega) ?_)
          clear hi0 hz0 hz1 hz2
          intro B6 d6 w7 ho6 hg6
          obtain ⟨l6, hl6, ho6'⟩ := int_snoc ho6
          have HOR6 := Lib.hid ho6'
          have HSL6 := Lib.hid (HSL.out.grown hg6 (fun b o s e e2 => by have h1 := HLTc.out (by omega) b o s e; have h2 := ((own_lt ho9).out b e2.symm).1; omega))
          have HD6 := Lib.hid (HD.out.app (by omega) (own_mono ho9 (by omega)) hg6)
          have HL6 := Lib.hid (hl6.trans (congrArg (· + 1) HL.out))
          have hz7 := hg6.size
          clear ho6 ho6' hg6 hl6 ho9
          go_wp2_with fail
          first | exact ⟨⟨k + 1, B6, d6, l6, by omega, by go_num, rfl, HL6.out, HOR6.out, by omega, HSL6.out, HD6.out.up (by omega)⟩, by simp [intOf]; omega⟩ | (refine ⟨?_, by simp [intOf]; omega⟩; (repeat apply Exists.intro); exact ⟨⟨k + 1, B6, d6, l6, by omega, by go_num, rfl, HL6.out, HOR6.out, by omega, HSL6.out, HD6.out.up (by omega)⟩, rfl⟩)
      · have e : k = m := by omega
        subst e
        go_wp2_with fail
        refine (HO.out _ (by omega) 16 (by omega) (by omega) _ HD.out.cur).mono ?_
        rintro e w5 ⟨b, rfl, hd⟩
        have HSL := Lib.hid (hd.sl HSL.out HNE.out)
        have HOR := Lib.hid (hd.keep (by omega) HOR.out)
        have HD := Lib.hid (HD.out.trans hd)
        have hz5 := hd.le
        clear hd
        cases b
        · go_wp2_with fail
          go_ret2
          exact ⟨B, k, d, l, C, k, f, cs, rfl, HSL.out, hm, hmd, Sl.of_own ci_len HOR.out HL.out (by omega), own_cap HOR.out, HD.out.cur.1⟩
        · have ho9 := HOR.out
          have hb9 : wc.heap.size ≤ w5.heap.size := by omega
          obtain ⟨i0, hi0, hz0, hz1, hz2⟩ := info_parts infoInt
          go_wp2_with (at_builtin; refine wpList_append_one _ rfl _ _ _ rfl _ 3 i0 _ 1 8 Try.underlying36 hi0 hz0 hz1 hz2 rfl (by omega) ci_len ci_one _ k cs rfl (0 : Int) _ rfl (by first | rfl | simp) _ rfl ho9 hb9 (by unfold maxLen; omega) (by omega) ?_)
          clear hi0 hz0 hz1 hz2
          intro B6 d6 w7 ho6 hg6
          obtain ⟨l6, hl6, ho6'⟩ := int_snoc ho6
          have HOR6 := Lib.hid ho6'
          have HSL6 : Hid (Sl Cargo.cs 3 w7 B k l) := by
            by_cases h0 : 0 < k
            · exact HSL.out.grown hg6 (fun b o s e e2 => by have h1 := HLTc.out h0 b o s e; have h2 := ((own_lt ho9).out b e2.symm).1; omega)
            · have hk0 : k = 0 := by omega
              exact ⟨HSL.out.1, HSL.out.2.1, fun h => absurd h h0⟩
          have HD6 := Lib.hid (HD.out.app (by omega) (own_mono ho9 (by omega)) hg6)
          have HL6 := Lib.hid (hl6.trans (congrArg (· + 1) HL.out))
          clear ho6 ho6' hg6 hl6 ho9 hb9
          go_wp2_with fail
          go_ret2
          exact ⟨B, k, d, l, B6, k + 1, d6, l6, rfl, HSL6.out, hm, hmd, Sl.of_own ci_len HOR6.out HL6.out (by omega), own_cap HOR6.out, HD6.out.cur.1⟩
end Go.Proofs.Ytkeaobjcfkmjmaa
