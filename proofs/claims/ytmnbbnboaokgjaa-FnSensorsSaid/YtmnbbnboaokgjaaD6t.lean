/- The contracts of what is drawn of chapter 6: triples. -/
import Derived.Test.YtmnbbnboaokgjaaD6s
import Derived.Test.YtmnbbnboaokgjaaD3
import Derived.Test.YtmnbbnboaokgjaaTg
namespace Go.Proofs.Ytmnbbnboaokgjaa
open Go.RowKit
theorem infoRowW : (Try.prog.info? 33).map (fun i => (i.zero, i.size, i.bytes)) = some (some (.slice none 0 0), 1, 24) := by kernel_rfl
/-- A part of an owned row from its start on. -/
theorem own_take {w : World} {B E g n c j : Nat} {l : List Int} (h : w.ownsRow B E 1 (.slice (some ⟨g, 0, none⟩) n c) n (l.flatMap ci)) (hj : j ≤ n) : w.ownsRow B E 1 (.slice (some ⟨g, 0, none⟩) j c) j ((l.take j).flatMap ci) := by
  have hlen := h.1
  rw [flat_len _ 1 ci_len] at hlen
  have hl : l.length = n := by omega
  rcases h.2 with ⟨hv, _⟩ | ⟨g', cap, cur, hv, hb, hg, hn, hm, hs, hc⟩
  · cases hv
  · injection hv with h1 _ h3
    injection h1 with h1; injection h1 with h1
    subst h1 h3
    refine ⟨by rw [flat_len _ 1 ci_len, List.length_take]; omega, .inr ⟨g, c, cur, rfl, hb, hg, by omega, hm, hs, ?_⟩⟩
    have e1 : cur.toList.take (j * 1) = (cur.toList.take (n * 1)).take j := by rw [List.take_take]; congr 1; omega
    rw [e1, hc]
    apply List.ext_getElem?
    intro i
    rw [List.getElem?_take]
    by_cases hi : i < j
    · rw [if_pos hi]
      have hi2 : i < l.length := by omega
      have a1 := ints_get (List.getElem?_eq_getElem hi2)
      have a2 := ints_get (l := l.take j) (k := i) (x := l[i]) (by rw [List.getElem?_take, if_pos hi]; exact List.getElem?_eq_getElem hi2)
      rw [a1, a2]
    · rw [if_neg hi, List.getElem?_eq_none (by rw [flat_len _ 1 ci_len, List.length_take]; omega)]
/-- A triple that has been drawn. -/
def DrTri (z : World) (g : Nat) (A : Option Addr) (n c k : Nat) (w : World) (e : Ending) (w' : World) : Prop :=
  ∃ (B : Option Addr) (m d : Nat) (l : List Int), e = .returned (.slice B m d) ∧ w'.ownsRow w.heap.size 3 1 (.slice B m d) m (l.flatMap ci) ∧ l.length = m ∧ m ≤ 4 ∧ Dr z g A n c k w w'
set_option maxHeartbeats 4000000 in
theorem triple_any (z : World) (g : Nat) (A : Option Addr) (n c k : Nat) (code : List Int) (hs : Sl cb 1 z A n code) (hby : Bytes code) (hk : k ≤ 10000) (w : World) (h : Cur z g A n c k w) :
    Calls Try.prog 100 #[.pointer (some ⟨g, 0, none⟩)] w (DrTri z g A n c (k + 20) w) := by
  have HP := pick_all z g A n c code hs hby
  have H6 := level6_all z g A n c code hs hby
  have hgw := h.lt
  have HD := Lib.hid (Dr.refl h)
  clear h hs hby
  go_enter Try.func100, Try.ntmps100
  go_wp2_with fail
  refine (H6.out _ (by omega) _ HD.out.cur).mono ?_
  rintro e w1 ⟨x, rfl, _, hd⟩
  have HD := Lib.hid (HD.out.trans hd)
  clear hd
  go_wp2_with fail
  refine (H6.out _ (by omega) _ HD.out.cur).mono ?_
  rintro e w2 ⟨y, rfl, _, hd⟩
  have HD := Lib.hid (HD.out.trans hd)
  clear hd
  go_wp2_with fail
  refine (H6.out _ (by omega) _ HD.out.cur).mono ?_
  rintro e w3 ⟨v, rfl, _, hd⟩
  have HD := Lib.hid (HD.out.trans hd)
  have HOR := Lib.hid (own_lits ci 1 ci_len w3 3 w.heap.size w3.heap.size [x, y, v] rfl HD.out.le (by simp))
  have HD := Lib.hid (HD.out.bl ((Bl.refl w3).alloc (.cells #[.int .i64 x, .int .i64 y, .int .i64 v] 3)))
  clear hd
  go_wp2_with fail
  refine (HP.out _ (by omega) 40 (by omega) (by omega) _ HD.out.cur).mono ?_
  rintro e w4 ⟨t, rfl, ⟨t0, t1⟩, hd⟩
  have HOR := Lib.hid (hd.keep hgw HOR.out)
  have HD := Lib.hid (HD.out.trans hd)
  clear hd
  by_cases ht0 : t = 0
  · subst ht0
    go_wp2_with fail
    go_ret
    exact ⟨_, 2, _, [x, y], rfl, own_take (j := 2) HOR.out (by simp), rfl, by omega, HD.out.up (by omega)⟩
  have hq0 : (t == 0) = false := by simpa using ht0
  by_cases ht1 : t = 1
  · subst ht1
    clear ht0 hq0
    have ho9 := HOR.out
    have hb9 := HD.out.le
    obtain ⟨i0, hi0, hz0, hz1, hz2⟩ := info_parts infoInt
    go_wp2_with (at_builtin; refine wpList_append_one _ rfl _ _ _ rfl _ 3 i0 _ 1 8 Try.underlying33 hi0 hz0 hz1 hz2 rfl (by omega) ci_len ci_one _ 3 [x, y, v] rfl (100 : Int) _ rfl (by first | rfl | simp) _ rfl ho9 hb9 (by unfold maxLen; omega) (by omega) ?_)
    clear hi0 hz0 hz1 hz2
    intro B6 d6 w6 ho6 hg6
    have HD6 := Lib.hid (HD.out.app hgw ho9 hg6)
    have HO6 : Hid (w6.ownsRow w.heap.size 3 1 (.slice B6 4 d6) 4 (([x, y, v] ++ [100]).flatMap ci)) := by show World.ownsRow _ _ _ _ _ _ _; simpa using ho6
    clear ho6 hg6 ho9 hb9
    go_wp2_with fail
    go_ret
    exact ⟨B6, 4, d6, [x, y, v] ++ [100], rfl, HO6.out, rfl, by omega, HD6.out.up (by omega)⟩
  · have hq1 : (t == 1) = false := by simpa using ht1
    go_wp2_with fail
    go_ret
    exact ⟨_, 3, _, [x, y, v], rfl, HOR.out, rfl, by omega, HD.out.up (by omega)⟩
/-- What has been drawn: rows in a row, all of the draw's own. -/
structure Tw (b : Nat) (w : World) (A : Option Addr) (m d : Nat) (rs : List Rw) (ls : List (List Int)) : Prop where
  own : w.ownsRow b 33 1 (.slice A m d) m (rs.flatMap crw)
  rl : rs.length = m
  ll : ls.length = m
  rows : ∀ (i : Nat) (r : Rw) (l : List Int), rs[i]? = some r → ls[i]? = some l → w.ownsRow b 3 1 (.slice r.a r.n r.c) r.n (l.flatMap ci) ∧ l.length = r.n ∧ r.n ≤ 4
section
variable {b : Nat} {w w' : World} {A : Option Addr} {m d : Nat} {rs : List Rw} {ls : List (List Int)}
theorem Tw.tb (h : Tw b w A m d rs ls) (hm : m ≤ 1048576) : Tb w A m rs ls :=
  ⟨Sl.of_own crw_len h.own h.rl (by omega), by rw [h.rl, h.ll], fun i r l e1 e2 => by
    obtain ⟨h1, h2, h3⟩ := h.rows i r l e1 e2
    exact ⟨Sl.of_own ci_len h1 h2 (by omega), own_cap h1⟩⟩
theorem Tw.bl (h : Tw b w A m d rs ls) (hb : Bl w w') : Tw b w' A m d rs ls :=
  ⟨hb.own h.own, h.rl, h.ll, fun i r l e1 e2 => ⟨hb.own (h.rows i r l e1 e2).1, (h.rows i r l e1 e2).2⟩⟩
theorem Tw.keep {z : World} {g n c k : Nat} {C : Option Addr} (h : Tw b w A m d rs ls) (hd : Dr z g C n c k w w') (hg : g < b) : Tw b w' A m d rs ls :=
  ⟨hd.keep hg h.own, h.rl, h.ll, fun i r l e1 e2 => ⟨hd.keep hg (h.rows i r l e1 e2).1, (h.rows i r l e1 e2).2⟩⟩
/-- Rows of other types lie in other blocks. -/
theorem own_apart {B B' E E' s s' n n' : Nat} {v v' : Value} {xs xs' : List Value} (h : w.ownsRow B E s v n xs) (h' : w.ownsRow B' E' s' v' n' xs') (hE : E ≠ E') : v.ownBlock = none ∨ v.ownBlock ≠ v'.ownBlock := by
  rcases h.2 with ⟨rfl, _⟩ | ⟨g, cap, cur, rfl, _, hg, _⟩
  · exact .inl rfl
  · refine .inr fun e => ?_
    rcases h'.2 with ⟨rfl, _⟩ | ⟨g', cap', cur', rfl, _, hg', _⟩
    · cases e
    · have e2 : g = g' := by injection e
      subst e2
      rw [hg] at hg'
      have := Option.some.inj hg'
      injection this with h1 h2
      exact hE h2
theorem Tw.snoc {B : Option Addr} {d' : Nat} {r : Rw} {l : List Int} (h : Tw b w A m d rs ls) (hr : w.ownsRow b 3 1 (.slice r.a r.n r.c) r.n (l.flatMap ci)) (hl : l.length = r.n) (h4 : r.n ≤ 4)
    (ho : w'.ownsRow b 33 1 (.slice B (m + 1) d') (m + 1) ((rs ++ [r]).flatMap crw)) (hg : w.grownBy w' (Value.slice A m d).ownBlock) : Tw b w' B (m + 1) d' (rs ++ [r]) (ls ++ [l]) := by
  refine ⟨ho, by simp [h.rl], by simp [h.ll], fun i q l' e1 e2 => ?_⟩
  by_cases e : i < m
  · rw [List.getElem?_append_left (by rw [h.rl]; exact e)] at e1
    rw [List.getElem?_append_left (by rw [h.ll]; exact e)] at e2
    obtain ⟨h1, h2⟩ := h.rows i q l' e1 e2
    exact ⟨World.ownsRow.kept h1 hg (own_apart h1 h.own (by decide)), h2⟩
  · have hi : i = m := by
      have := (List.getElem?_eq_some_iff.1 e1).1
      rw [List.length_append, h.rl] at this
      simp at this; omega
    subst hi
    rw [List.getElem?_append_right (by rw [h.rl]; exact Nat.le_refl _), h.rl] at e1
    rw [List.getElem?_append_right (by rw [h.ll]; exact Nat.le_refl _), h.ll] at e2
    simp at e1 e2
    subst e1 e2
    exact ⟨World.ownsRow.kept hr hg (own_apart hr h.own (by decide)), hl, h4⟩
end
/-- A triple. -/
def DrT1 (w : World) (e : Ending) (w' : World) : Prop :=
  ∃ (B : Option Addr) (m d : Nat) (l : List Int), e = .returned (.slice B m d) ∧ Sl ci 1 w' B m l ∧ m ≤ 4 ∧ m ≤ d ∧ Bl w w'
/-- A triple, a number. -/
def DrT2 (w : World) (e : Ending) (w' : World) : Prop :=
  ∃ (B : Option Addr) (m d : Nat) (l : List Int) (f : Int), e = .returned (.tuple #[.slice B m d, .int .i64 f]) ∧ Sl ci 1 w' B m l ∧ m ≤ 4 ∧ m ≤ d ∧ Bl w w'
/-- Triples, a number. -/
def DrT3 (w : World) (e : Ending) (w' : World) : Prop :=
  ∃ (B : Option Addr) (m d : Nat) (rs : List Rw) (ls : List (List Int)) (f : Int), e = .returned (.tuple #[.slice B m d, .int .i64 f]) ∧ Tb w' B m rs ls ∧ m ≤ 30 ∧ m ≤ d ∧ Bl w w'
section
variable (A : Option Addr) (n c : Nat) (code : List Int) (w : World) (hs : Sl cb 1 w A n code) (hby : Bytes code)
include hs hby in
set_option maxHeartbeats 2000000 in
theorem drawMedianOf_any : Calls Try.prog 57 #[.slice A n c] w (DrT1 w) := by
  have HB := Lib.hid (fun W hW => triple_any w w.heap.size A n c 0 code hs hby (by omega) W hW)
  have HC0 : Hid (Cur w w.heap.size A n c 0 (w.alloc (.cells #[.slice A n c, .int .i64 0, .int .u64 0] 93))) := ⟨(Bl.refl w).alloc _, Nat.le_refl _, 0, 0, Nat.le_refl _, heap_alloc_new w _⟩
  clear hs hby
  go_enter Try.func57, Try.ntmps57
  go_wp2_with fail
  refine (HB.out _ HC0.out).mono ?_
  rintro e w1 ⟨B, m, d, l, rfl, ho, hl, hm, hd⟩
  have HOR := Lib.hid ho
  have HL := Lib.hid hl
  have HD := Lib.hid hd
  clear ho hl hd
  go_wp2_with fail
  go_ret
  exact ⟨B, m, d, l, rfl, Sl.of_own ci_len HOR.out HL.out (by omega), hm, own_cap HOR.out, HD.out.cur.1⟩
include hs hby in
set_option maxHeartbeats 2000000 in
theorem drawAgreeing_any : Calls Try.prog 99 #[.slice A n c] w (DrT2 w) := by
  have HB := Lib.hid (fun W hW => triple_any w w.heap.size A n c 0 code hs hby (by omega) W hW)
  have HM := Lib.hid (fun k hk W hW => most6_any w w.heap.size A n c k code hs hby hk W hW)
  have hgw : w.heap.size < (w.alloc (.cells #[.slice A n c, .int .i64 0, .int .u64 0] 93)).heap.size := by simp
  have HC0 : Hid (Cur w w.heap.size A n c 0 (w.alloc (.cells #[.slice A n c, .int .i64 0, .int .u64 0] 93))) := ⟨(Bl.refl w).alloc _, Nat.le_refl _, 0, 0, Nat.le_refl _, heap_alloc_new w _⟩
  clear hs hby
  go_enter Try.func99, Try.ntmps99
  go_wp2_with fail
  refine (HB.out _ HC0.out).mono ?_
  rintro e w1 ⟨B, m, d, l, rfl, ho, hl, hm, hd⟩
  have HOR := Lib.hid ho
  have HL := Lib.hid hl
  have HD := Lib.hid hd
  clear ho hl hd
  go_wp2_with fail
  refine (HM.out _ (by omega) _ HD.out.cur).mono ?_
  rintro e w2 ⟨y, rfl, _, hd⟩
  have HOR := Lib.hid (hd.keep hgw HOR.out)
  have HD := Lib.hid (HD.out.trans hd)
  clear hd
  go_wp2_with fail
  go_ret2
  exact ⟨B, m, d, l, y, rfl, Sl.of_own ci_len HOR.out HL.out (by omega), hm, own_cap HOR.out, HD.out.cur.1⟩
include hs hby in
set_option maxHeartbeats 2000000 in
theorem drawVoted_any : Calls Try.prog 55 #[.slice A n c] w (DrT2 w) := by
  have HB := Lib.hid (drawAgreeing_any A n c code w hs hby)
  clear hs hby
  go_enter Try.func55, Try.ntmps55
  go_wp2_with fail
  refine HB.out.mono ?_
  rintro e w1 ⟨B, m, d, l, f, rfl, hsl, hm, hmd, hb⟩
  go_wp2_with fail
  go_ret2
  exact ⟨B, m, d, l, f, rfl, hsl, hm, hmd, hb⟩
include hs hby in
set_option maxHeartbeats 8000000 in
theorem drawSuspect_any : Calls Try.prog 59 #[.slice A n c] w (DrT3 w) := by
  have HT := Lib.hid (fun k hk W hW => triple_any w w.heap.size A n c k code hs hby hk W hW)
  have HM := Lib.hid (fun k hk W hW => most6_any w w.heap.size A n c k code hs hby hk W hW)
  have HP := pick_all w w.heap.size A n c code hs hby
  have HO := one_all w w.heap.size A n c code hs hby
  have HC0 : Hid (Cur w w.heap.size A n c 0 (w.alloc (.cells #[.slice A n c, .int .i64 0, .int .u64 0] 93))) := ⟨(Bl.refl w).alloc _, Nat.le_refl _, 0, 0, Nat.le_refl _, heap_alloc_new w _⟩
  have hgw : w.heap.size < w.heap.size + 1 := by omega
  obtain ⟨w0, hw0⟩ : ∃ w0, w0 = w.alloc (.cells #[.slice A n c, .int .i64 0, .int .u64 0] 93) := ⟨_, rfl⟩
  have hz0 : w0.heap.size = w.heap.size + 1 := by rw [hw0]; simp
  have HM0 := Lib.hid (made_at crw 1 w0 33 w0.heap.size _ rfl (Nat.le_refl _))
  rw [← hw0] at HC0
  have HD := Lib.hid ((Dr.refl HC0.out).bl ((Bl.refl w0).alloc (.cells #[] 33)))
  have HW : Hid (Tw (w.heap.size + 1) (w0.alloc (.cells #[] 33)) (some ⟨w.heap.size + 1, 0, none⟩) 0 0 [] []) := by
    rw [hz0] at HM0
    exact ⟨HM0.out, rfl, rfl, fun i r l e => by simp at e⟩
  clear hs hby HC0 HM0
  go_enter Try.func59, Try.ntmps59
  go_wp2_with fail
  rw [← hw0]
  refine (HP.out 0 (by omega) 6 (by omega) (by omega) _ HD.out.cur).mono ?_
  rintro e w1 ⟨x, rfl, ⟨x0, x1⟩, hd⟩
  have HW := Lib.hid (HW.out.keep hd hgw)
  have HD := Lib.hid (HD.out.trans hd)
  obtain ⟨j0, rfl⟩ := Int.eq_ofNat_of_zero_le x0
  have hj0 : j0 ≤ 5 := by omega
  clear hd x0 x1 hw0
  go_wp2_with fail
  go_loopw [5, 6] (fun u v wr => ∃ (j : Nat) (B : Option Addr) (m d : Nat) (rs : List Rw) (ls : List (List Int)), j + m ≤ 5 ∧ v = .int .i64 j ∧ u = .slice B m d ∧ Hid (Tw (w.heap.size + 1) wr B m d rs ls) ∧ Hid (Dr w w.heap.size A n c (200 - 30 * j) w0 wr)) (fun _ v _ => (intOf v).toNat)
  case atStart => exact ⟨j0, _, 0, 0, [], [], by omega, rfl, rfl, HW.out, HD.out.up (by omega)⟩
  case round =>
    clear HW HD hj0
    obtain ⟨j, B, m, d, rs, ls, hj, rfl, rfl, HW, HD⟩ := hrel
    have hlt := HD.out.cur.lt
    by_cases hj0 : 0 < j
    · go_wp2_with fail
      refine (HT.out _ (by omega) _ HD.out.cur).mono ?_
      rintro e w2 ⟨B2, m2, d2, l2, rfl, ho, hl, hm, hd⟩
      have HW := Lib.hid (HW.out.keep hd hgw)
      have HD := Lib.hid (HD.out.trans hd)
      have HR := Lib.hid (own_mono ho (show w.heap.size + 1 ≤ wr.heap.size by omega))
      have HL := Lib.hid hl
      have hb9 : w.heap.size + 1 ≤ w2.heap.size := HD.out.cur.lt
      have ho9 := HW.out.own
      clear ho hl hd
      obtain ⟨i0, hi0, hz0, hz1, hz2⟩ := info_parts infoRowW
      go_wp2_with (at_builtin; refine wpList_append_one _ rfl _ _ _ rfl _ 33 i0 _ 1 24 Try.underlying68 hi0 hz0 hz1 hz2 rfl (by omega) crw_len crw_one _ m rs rfl (⟨B2, m2, d2⟩ : Rw) _ rfl (by first | rfl | simp) _ rfl ho9 hb9 (by unfold maxLen; omega) (by omega) ?_)
      clear hi0 hz0 hz1 hz2
      intro B6 d6 w6 ho6 hg6
      have HW6 := Lib.hid (HW.out.snoc (r := ⟨B2, m2, d2⟩) HR.out HL.out hm (by simpa using ho6) hg6)
      have HD6 := Lib.hid (HD.out.app (by omega) (by rw [hz0]; exact ho9) hg6)
      clear ho6 hg6 ho9 hb9 HW HD HR HL
      go_wp2_with fail
      first | exact ⟨⟨j - 1, B6, m + 1, d6, _, _, by omega, by congr 1; omega, rfl, HW6.out, HD6.out.up (by omega)⟩, by simp [intOf]; omega⟩ | (refine ⟨?_, by simp [intOf]; omega⟩; (repeat apply Exists.intro); exact ⟨⟨j - 1, B6, m + 1, d6, _, _, by omega, by congr 1; omega, rfl, HW6.out, HD6.out.up (by omega)⟩, rfl⟩)
    · obtain rfl : j = 0 := by omega
      go_wp2_with fail
      refine (HO.out _ (by omega) 24 (by omega) (by omega) _ HD.out.cur).mono ?_
      rintro e w2 ⟨q, rfl, hd⟩
      have HW := Lib.hid (HW.out.keep hd hgw)
      have HD := Lib.hid (HD.out.trans hd)
      clear hd
      cases q
      · go_wp2_with fail
        refine (HM.out _ (by omega) _ HD.out.cur).mono ?_
        rintro e w5 ⟨y, rfl, _, hd⟩
        have HW := Lib.hid (HW.out.keep hd hgw)
        have HD := Lib.hid (HD.out.trans hd)
        clear hd
        go_wp2_with fail
        go_ret2
        exact ⟨B, m, d, rs, ls, y, rfl, HW.out.tb (by omega), by omega, own_cap HW.out.own, HD.out.cur.1⟩
      · go_wp2_with fail
        go_loopw [5] (fun u wx => ∃ (B : Option Addr) (m d : Nat) (rs : List Rw) (ls : List (List Int)), u = .slice B m d ∧ m ≤ 21 ∧ Hid (Tw (w.heap.size + 1) wx B m d rs ls) ∧ Hid (Dr w w.heap.size A n c (400 + 4 * m) w0 wx)) (fun u _ => 21 - lenOfV u)
        case atStart => exact ⟨B, m, d, rs, ls, rfl, by omega, HW.out, HD.out.up (by omega)⟩
        case round =>
          clear HW HD
          obtain ⟨B, m, d, rs, ls, rfl, hm, HW, HD⟩ := hrel
          go_wp2_with fail
          refine (HP.out _ (by omega) 2 (by omega) (by omega) _ HD.out.cur).mono ?_
          rintro e w3 ⟨p, rfl, ⟨p0, p1⟩, hd⟩
          have HW := Lib.hid (HW.out.keep hd hgw)
          have HD := Lib.hid (HD.out.trans hd)
          clear hd
          by_cases h1 : (m : Int) < 20 + p
          · have hm2 : m ≤ 20 := by omega
            have hlt3 := HD.out.cur.lt
            have HR := Lib.hid (own_lits ci 1 ci_len w3 3 (w.heap.size + 1) w3.heap.size [100, 101, 110] rfl (by omega) (by simp))
            have hbl := (Bl.refl w3).alloc (.cells #[.int .i64 100, .int .i64 101, .int .i64 110] 3)
            have HW := Lib.hid (HW.out.bl hbl)
            have HD := Lib.hid (HD.out.bl hbl)
            have hb9 : w.heap.size + 1 ≤ (w3.alloc (.cells #[.int .i64 100, .int .i64 101, .int .i64 110] 3)).heap.size := HD.out.cur.lt
            have ho9 := HW.out.own
            obtain ⟨i0, hi0, hz0, hz1, hz2⟩ := info_parts infoRowW
            go_wp2_with (at_builtin; refine wpList_append_one _ rfl _ _ _ rfl _ 33 i0 _ 1 24 Try.underlying68 hi0 hz0 hz1 hz2 rfl (by omega) crw_len crw_one _ m rs rfl (⟨some ⟨w3.heap.size, 0, none⟩, 3, 3⟩ : Rw) _ rfl (by first | rfl | simp) _ rfl ho9 hb9 (by unfold maxLen; omega) (by omega) ?_)
            clear hi0 hz0 hz1 hz2
            intro B6 d6 w6 ho6 hg6
            have HW6 := Lib.hid (HW.out.snoc (r := ⟨some ⟨w3.heap.size, 0, none⟩, 3, 3⟩) (l := [100, 101, 110]) HR.out rfl (by simp) (by simpa using ho6) hg6)
            have HD6 := Lib.hid (HD.out.app (by omega) (by rw [hz0]; exact ho9) hg6)
            clear ho6 hg6 ho9 hb9 HW HD HR hbl
            go_wp2_with fail
            refine ⟨⟨B6, m + 1, d6, _, _, rfl, by omega, HW6.out, HD6.out.up (by omega)⟩, by simp [lenOfV]; omega⟩
          · go_wp2_with fail
            refine (HM.out _ (by omega) _ HD.out.cur).mono ?_
            rintro e w5 ⟨y, rfl, _, hd⟩
            have HW := Lib.hid (HW.out.keep hd hgw)
            have HD := Lib.hid (HD.out.trans hd)
            clear hd
            go_wp2_with fail
            go_ret2
            exact ⟨B, m, d, rs, ls, y, rfl, HW.out.tb (by omega), by omega, own_cap HW.out.own, HD.out.cur.1⟩
end
end Go.Proofs.Ytmnbbnboaokgjaa
