/- The contracts of what is drawn of chapter 8: orders, and all at once. -/
import Derived.Test.YtnckpionabokeaaD8
namespace Go.Proofs.Ytnckpionabokeaa
open Go.RowKit
theorem ints_put {w : World} {B E g m d : Nat} {o : List Int} (ho : w.ownsRow B E 1 (.slice (some ⟨g, 0, none⟩) m d) m (o.flatMap ci)) {j : Nat} (hj : j < o.length) (y : Int) :
    (w.setCell ⟨g, j, none⟩ (.int .i64 y)).ownsRow B E 1 (.slice (some ⟨g, 0, none⟩) m d) m ((o.set j y).flatMap ci) := by
  have := flat_set ci 1 ci_len o j o[j] y (List.getElem?_eq_getElem hj) 0 (by omega) (.int .i64 y) rfl
  rw [Nat.mul_one, Nat.add_zero] at this
  rw [← this]
  exact own_set ho j _
theorem Dr.put {z w w' : World} {g : Nat} {A : Option Addr} {n c k b j : Nat} (h : Dr z g A n c k w w') (hw : g < w.heap.size) (hb : w.heap.size ≤ b) (u : Value) : Dr z g A n c k w (w'.setCell ⟨b, j, none⟩ u) := by
  obtain ⟨h1, h2, h3, p, sd, h4, h5⟩ := h
  have h6 := h2.le
  refine ⟨⟨h1.os, h1.tape, h1.output, by simpa [World.setCell] using h1.size, fun i hi hr => ?_⟩, h2.setCell (p := ⟨b, j, none⟩) (by simp only; omega) _, h3, p, sd, h4, ?_⟩
  · rw [Below.heap_setCell _ _ _ _ (by simp only; omega)]
    exact h1.block i hi hr
  · rw [Below.heap_setCell _ _ _ _ (by simp only; omega)]
    exact h5
/-- A list of integers that has been drawn. -/
def DrInts (top : Nat) (z : World) (g : Nat) (A : Option Addr) (n c k : Nat) (w : World) (e : Ending) (w' : World) : Prop :=
  ∃ (B : Option Addr) (m d : Nat) (l : List Int), e = .returned (.slice B m d) ∧ w'.ownsRow w.heap.size 3 1 (.slice B m d) m (l.flatMap ci) ∧ l.length = m ∧ m ≤ top ∧ Dr z g A n c k w w'
/-- How far it is from i to t, round n. -/
def distT (t n i : Nat) : Nat := if i ≤ t then t - i else t + n - i
theorem dist_less {t n i : Nat} (ht : t < n) (hi : i < n) (h : i ≠ t) : distT t n (if i + 1 = n then 0 else i + 1) < distT t n i := by
  unfold distT
  repeat' split
  all_goals omega
def lenOfV : Value → Nat
  | .slice _ m _ => m
  | _ => 0
set_option maxRecDepth 100000 in
set_option maxHeartbeats 8000000 in
theorem lockageOrder_any (z : World) (g : Nat) (A : Option Addr) (n c k : Nat) (code : List Int) (hs : Sl cb 1 z A n code) (hby : Bytes code) (hk : k ≤ 100000) (L : Option Addr) (nl cl : Nat) (l : List Arrival) (w : World) (hl : Sl Arrival.cs 4 w L nl l) (hnl : nl ≤ 8) (hL : ∀ b o s, L = some ⟨b, o, s⟩ → b ≠ g) (h : Cur z g A n c k w) :
    Calls Try.prog 70 #[.pointer (some ⟨g, 0, none⟩), .slice L nl cl] w (DrInts 9 z g A n c (k + 100) w) := by
  have HP := pick_all z g A n c code hs hby
  have HO := one_all z g A n c code hs hby
  have hgw := h.lt
  have HSL := Lib.hid hl
  have HLL := Lib.hid hl.1
  have HNE := Lib.hid hL
  have HD := Lib.hid ((Dr.refl h).bl ((Bl.refl w).alloc (.cells #[] 3)))
  have HOR := Lib.hid (made_at ci 1 w 3 w.heap.size _ rfl (Nat.le_refl _))
  clear h hs hby hl hL
  go_enter Try.func70, Try.ntmps70
  go_wp2_with fail
  go_loopw [5] (fun u wr => ∃ (B : Option Addr) (m d : Nat) (o : List Int), u = .slice B m d ∧ m ≤ nl ∧ o.length = m ∧ Hid (∀ x ∈ o, 0 ≤ x) ∧ wr.ownsRow w.heap.size 3 1 (.slice B m d) m (o.flatMap ci) ∧ Dr z g A n c (k + 2 * m) w wr) (fun u _ => nl - lenOfV u)
  case atStart => exact ⟨_, 0, 0, [], rfl, Nat.zero_le _, rfl, (fun x hx => by simp at hx), HOR.out, HD.out⟩
  case round =>
    clear HOR HD
    obtain ⟨B, m, d, o, rfl, hm, hlo, hpos, hor, hd⟩ := hrel
    have HLO := Lib.hid hlo
    have HOR := Lib.hid hor
    have HD := Lib.hid hd
    clear hlo hor hd
    by_cases hlt : m < nl
    · go_wp2_with fail
      refine (HP.out _ (by omega) ((nl : Int)) (by omega) (by omega) _ HD.out.cur).mono ?_
      rintro e w' ⟨x, rfl, ⟨x0, x1⟩, hd⟩
      have HOR := Lib.hid (hd.keep hgw HOR.out)
      have HD := Lib.hid (HD.out.trans hd)
      clear hd
      obtain ⟨i0, rfl⟩ := Int.eq_ofNat_of_zero_le x0
      have hi0 : i0 < nl := by omega
      obtain ⟨t, ht, hmay⟩ := next_there (l := l) hpos.out (by rw [HLO.out, HLL.out]; exact hlt)
      rw [HLL.out] at ht
      have HMAY := Lib.hid hmay
      have HSW := Lib.hid (HD.out.sl HSL.out HNE.out)
      have HSO := Lib.hid (Sl.of_own ci_len HOR.out HLO.out (by omega))
      obtain ⟨wo, hwo⟩ : ∃ wo : World, wo = w' := ⟨_, rfl⟩
      subst hwo
      clear x0 x1 hmay
      go_wp2_with fail
      go_loopw [6] (fun v wx => ∃ i : Nat, i < nl ∧ v = .int .i64 i ∧ Bl wo wx) (fun v _ => distT t nl (intOf v).toNat)
      case atStart => exact ⟨i0, hi0, rfl, Bl.refl _⟩
      case round =>
        obtain ⟨i, hi, rfl, hbx⟩ := hrel
        have H1 : Hid (Calls Try.prog 75 #[.slice L nl cl, .slice B m d, .int .i64 i] wr fun e w' => e = .returned (.bool (mayB l o i)) ∧ Bl wr w') := l8Next_any L nl cl l B m d o i wr (HSW.out.bl hbx) (HSO.out.bl hbx) hi
        cases hmi : mayB l o i
        · have hne : i ≠ t := fun e => by rw [e, HMAY.out] at hmi; cases hmi
          have HDS := Lib.hid (dist_less ht hi hne)
          have hq : ((i : Int) + 1) % (nl : Int) = ((if i + 1 = nl then 0 else i + 1 : Nat) : Int) := by
            by_cases e : i + 1 = nl
            · rw [if_pos e, ← e]; simp
            · rw [if_neg e]; exact Int.emod_eq_of_lt (by omega) (by omega)
          have hi2 : (if i + 1 = nl then 0 else i + 1) < nl := by split <;> omega
          generalize (if i + 1 = nl then 0 else i + 1) = i2 at *
          rw [hmi] at H1
          have HQ := Lib.hid hq
          clear hne
          go_wp2_with fail
          refine H1.out.mono ?_
          rintro e w2 ⟨rfl, hbn⟩
          go_wp2_with fail
          exact ⟨⟨i2, hi2, by rw [HQ.out], hbx.trans hbn⟩, by simp only [intOf]; rw [HQ.out]; exact HDS.out⟩
        · rw [hmi] at H1
          go_wp2_with fail
          refine H1.out.mono ?_
          rintro e w2 ⟨rfl, hbn⟩
          have hb2 := hbx.trans hbn
          have ho9 := hb2.own HOR.out
          have HD9 := Lib.hid (HD.out.bl hb2)
          have hb9 := HD9.out.le
          obtain ⟨i0, hi0, hz0, hz1, hz2⟩ := info_parts infoInt
          go_wp2_with (at_builtin; refine wpList_append_one _ rfl _ _ _ rfl _ 3 i0 _ 1 8 Try.underlying31 hi0 hz0 hz1 hz2 rfl (by omega) ci_len ci_one _ m o rfl (i : Int) _ rfl (by first | rfl | simp) _ rfl ho9 hb9 (by unfold maxLen; omega) (by omega) ?_)
          clear hi0 hz0 hz1 hz2
          intro B6 d6 w6 ho6 hg6
          have HOR6 := Lib.hid (show w6.ownsRow w.heap.size 3 1 (.slice B6 (m + 1) d6) (m + 1) ((o ++ [(i : Int)]).flatMap ci) by rw [ci_snoc]; exact ho6)
          have HD6 := Lib.hid (HD9.out.app hgw ho9 hg6)
          have HPO : Hid (∀ x ∈ o ++ [(i : Int)], 0 ≤ x) := fun x hx => by
            rcases List.mem_append.1 hx with hx | hx
            · exact hpos.out x hx
            · simp at hx; omega
          clear ho6 hg6 ho9 hb9 hbn hb2
          go_wp2_with fail
          exact ⟨⟨B6, m + 1, d6, o ++ [(i : Int)], rfl, by omega, by rw [snoc_len, HLO.out], HPO, HOR6.out, HD6.out.up (by omega)⟩, by simp only [lenOfV]; omega⟩
    · have e : m = nl := by omega
      subst e
      clear hlt
      by_cases h1 : 1 < m
      · have h1' : (1 : Int) < (m : Int) := by omega
        go_wp2_with fail
        refine (HO.out _ (by omega) 8 (by omega) (by omega) _ HD.out.cur).mono ?_
        rintro e w' ⟨b, rfl, hd⟩
        have HOR := Lib.hid (hd.keep hgw HOR.out)
        have HD := Lib.hid (HD.out.trans hd)
        clear hd
        cases b
        · go_wp2_with fail
          refine (HO.out _ (by omega) 24 (by omega) (by omega) _ HD.out.cur).mono ?_
          rintro e w' ⟨b2, rfl, hd⟩
          have HOR := Lib.hid (hd.keep hgw HOR.out)
          have HD := Lib.hid (HD.out.trans hd)
          clear hd
          cases b2
          · go_wp2_with fail
            go_ret
            exact ⟨_, m, _, o, rfl, HOR.out, HLO.out, by omega, HD.out.up (by omega)⟩
          · have ho9 := HOR.out
            have hb9 := HD.out.le
            obtain ⟨i0, hi0, hz0, hz1, hz2⟩ := info_parts infoInt
            go_wp2_with (at_builtin; refine wpList_append_one _ rfl _ _ _ rfl _ 3 i0 _ 1 8 Try.underlying31 hi0 hz0 hz1 hz2 rfl (by omega) ci_len ci_one _ m o rfl 0 _ rfl (by first | rfl | simp) _ rfl ho9 hb9 (by unfold maxLen; omega) (by omega) ?_)
            clear hi0 hz0 hz1 hz2
            intro B6 d6 w6 ho6 hg6
            have HOR6 := Lib.hid (show w6.ownsRow w.heap.size 3 1 (.slice B6 (m + 1) d6) (m + 1) ((o ++ [0]).flatMap ci) by rw [ci_snoc]; exact ho6)
            have HD6 := Lib.hid (HD.out.app hgw ho9 hg6)
            clear ho6 hg6 ho9 hb9
            go_wp2_with fail
            go_ret
            exact ⟨B6, m + 1, d6, o ++ [0], rfl, HOR6.out, by rw [snoc_len, HLO.out], by omega, HD6.out.up (by omega)⟩
        · go_wp2_with fail
          refine (HP.out _ (by omega) ((m : Int) - 1) (by omega) (by omega) _ HD.out.cur).mono ?_
          rintro e w' ⟨x, rfl, ⟨x0, x1⟩, hd⟩
          have HOR := Lib.hid (hd.keep hgw HOR.out)
          have HD := Lib.hid (HD.out.trans hd)
          clear hd
          obtain ⟨q, rfl⟩ := Int.eq_ofNat_of_zero_le x0
          have hq : q + 1 < m := by omega
          clear x0 x1
          have hqo : q < o.length := by rw [HLO.out]; omega
          have hqo1 : q + 1 < o.length := by rw [HLO.out]; omega
          rcases own_forms HOR.out with ⟨rfl, h0, _, _⟩ | ⟨g1, rfl⟩
          · omega
          have hS := Sl.of_own ci_len HOR.out HLO.out (by omega)
          obtain ⟨b3, o3, y3, hA3, e3, c3⟩ := hS.int (i := q) (by omega)
          injection hA3 with hA3; injection hA3 with hA3 hA3'; subst hA3 hA3'
          obtain ⟨b4, o4, y4, hA4, e4, c4⟩ := hS.int (i := q + 1) (by omega)
          injection hA4 with hA4; injection hA4 with hA4 hA4'; subst hA4 hA4'
          have d3 := c3 _ (Bl.refl _)
          have d4 := c4 _ (Bl.refl _)
          simp only [Nat.zero_add] at d3 d4
          have fz := World.ownsRow.frozenAt HOR.out
          have hgl := Lib.hid ((own_lt HOR.out).out g1 rfl).1
          have k1 : (0 : Int) ≤ (q : Int) + 1 := by omega
          have k2 : (q : Int) + 1 < (m : Int) := by omega
          have k3 : ((q : Int) + 1).toNat = q + 1 := by omega
          have k4 : q < m := by omega
          clear c3 c4 e3 e4 hS
          go_wp2_with fail
          have HOR : Hid (World.ownsRow _ w.heap.size 3 1 (.slice (some ⟨g1, 0, none⟩) m d) m (((o.set q y4).set (q + 1) y3).flatMap ci)) := ints_put (j := q + 1) (ints_put HOR.out hqo y4) (by simpa using hqo1) y3
          have HD : Hid (Dr z g A n c _ w _) := Dr.put (j := q + 1) (Dr.put (j := q) HD.out hgw hgl.out (.int .i64 y4)) hgw hgl.out (.int .i64 y3)
          have HLO : Hid (((o.set q y4).set (q + 1) y3).length = m) := by show _ = _; rw [List.length_set, List.length_set, HLO.out]
          clear d3 d4 fz k1 k2 k3 k4 hqo hqo1
          generalize (o.set q y4).set (q + 1) y3 = o at *
          go_wp2_with fail
          refine (HO.out _ (by omega) 24 (by omega) (by omega) _ HD.out.cur).mono ?_
          rintro e w' ⟨b2, rfl, hd⟩
          have HOR := Lib.hid (hd.keep hgw HOR.out)
          have HD := Lib.hid (HD.out.trans hd)
          clear hd
          cases b2
          · go_wp2_with fail
            go_ret
            exact ⟨_, m, _, o, rfl, HOR.out, HLO.out, by omega, HD.out.up (by omega)⟩
          · have ho9 := HOR.out
            have hb9 := HD.out.le
            obtain ⟨i0, hi0, hz0, hz1, hz2⟩ := info_parts infoInt
            go_wp2_with (at_builtin; refine wpList_append_one _ rfl _ _ _ rfl _ 3 i0 _ 1 8 Try.underlying31 hi0 hz0 hz1 hz2 rfl (by omega) ci_len ci_one _ m o rfl 0 _ rfl (by first | rfl | simp) _ rfl ho9 hb9 (by unfold maxLen; omega) (by omega) ?_)
            clear hi0 hz0 hz1 hz2
            intro B6 d6 w6 ho6 hg6
            have HOR6 := Lib.hid (show w6.ownsRow w.heap.size 3 1 (.slice B6 (m + 1) d6) (m + 1) ((o ++ [0]).flatMap ci) by rw [ci_snoc]; exact ho6)
            have HD6 := Lib.hid (HD.out.app hgw ho9 hg6)
            clear ho6 hg6 ho9 hb9
            go_wp2_with fail
            go_ret
            exact ⟨B6, m + 1, d6, o ++ [0], rfl, HOR6.out, by rw [snoc_len, HLO.out], by omega, HD6.out.up (by omega)⟩
      · have h1' : ¬ (1 : Int) < (m : Int) := by omega
        go_wp2_with fail
        refine (HO.out _ (by omega) 24 (by omega) (by omega) _ HD.out.cur).mono ?_
        rintro e w' ⟨b2, rfl, hd⟩
        have HOR := Lib.hid (hd.keep hgw HOR.out)
        have HD := Lib.hid (HD.out.trans hd)
        clear hd
        cases b2
        · go_wp2_with fail
          go_ret
          exact ⟨_, m, _, o, rfl, HOR.out, HLO.out, by omega, HD.out.up (by omega)⟩
        · have ho9 := HOR.out
          have hb9 := HD.out.le
          obtain ⟨i0, hi0, hz0, hz1, hz2⟩ := info_parts infoInt
          go_wp2_with (at_builtin; refine wpList_append_one _ rfl _ _ _ rfl _ 3 i0 _ 1 8 Try.underlying31 hi0 hz0 hz1 hz2 rfl (by omega) ci_len ci_one _ m o rfl 0 _ rfl (by first | rfl | simp) _ rfl ho9 hb9 (by unfold maxLen; omega) (by omega) ?_)
          clear hi0 hz0 hz1 hz2
          intro B6 d6 w6 ho6 hg6
          have HOR6 := Lib.hid (show w6.ownsRow w.heap.size 3 1 (.slice B6 (m + 1) d6) (m + 1) ((o ++ [0]).flatMap ci) by rw [ci_snoc]; exact ho6)
          have HD6 := Lib.hid (HD.out.app hgw ho9 hg6)
          clear ho6 hg6 ho9 hb9
          go_wp2_with fail
          go_ret
          exact ⟨B6, m + 1, d6, o ++ [0], rfl, HOR6.out, by rw [snoc_len, HLO.out], by omega, HD6.out.up (by omega)⟩
end Go.Proofs.Ytnckpionabokeaa
