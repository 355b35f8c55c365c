/- The contracts of what is drawn of chapter 11: orders, the draws. -/
import Derived.Test.YteejalanjeeecaaD11
namespace Go.Proofs.Yteejalanjeeecaa
open Go.RowKit
theorem int_snoc {w : World} {B E m : Nat} {v : Value} {l : List Int} {y : Int} (h : w.ownsRow B E 1 v m (l.flatMap ci ++ ci y)) : ∃ l' : List Int, l'.length = l.length + 1 ∧ w.ownsRow B E 1 v m (l'.flatMap ci) :=
  ⟨l ++ [y], by simp, by rw [List.flatMap_append]; simpa using h⟩
/-- An order that has been drawn. -/
def DrOrd (z : World) (g : Nat) (A : Option Addr) (n c k : Nat) (w : World) (e : Ending) (w' : World) : Prop :=
  ∃ (B : Option Addr) (m d : Nat) (l : List Int), e = .returned (.slice B m d) ∧ Sl ci 1 w' B m l ∧ m ≤ 9 ∧ m ≤ d ∧ (∀ b o s, B = some ⟨b, o, s⟩ → b ≠ g) ∧ Dr z g A n c k w w'
theorem DrOrd.own {z w w' : World} {g n c k m d : Nat} {A B : Option Addr} {l : List Int} (hgw : g < w.heap.size) (ho : w'.ownsRow w.heap.size 3 1 (.slice B m d) m (l.flatMap ci)) (hl : l.length = m) (hm : m ≤ 9) (hd : Dr z g A n c k w w') : DrOrd z g A n c k w (.returned (.slice B m d)) w' :=
  ⟨B, m, d, l, rfl, Sl.of_own ci_len ho hl (by omega), hm, own_cap ho, own_ne ho hgw, hd⟩
set_option maxRecDepth 100000 in
set_option maxHeartbeats 8000000 in
theorem order11_any (z : World) (g : Nat) (A : Option Addr) (n c k : Nat) (code : List Int) (hs : Sl cb 1 z A n code) (hby : Bytes code) (hk : k ≤ 10000) (L : Option Addr) (nl cl : Nat) (hnl : nl ≤ 6) (w : World) (h : Cur z g A n c k w) :
    Calls Try.prog 78 #[.pointer (some ⟨g, 0, none⟩), .slice L nl cl] w (DrOrd z g A n c (k + 200) w) := by
  have HP := pick_all z g A n c code hs hby
  have HO := one_all z g A n c code hs hby
  have HA := among_all z g A n c code hs hby
  have hgw := h.lt
  have HC := Lib.hid (h.bl ((Bl.refl w).alloc (.cells #[] 3)))
  have HD := Lib.hid ((Dr.refl h).bl ((Bl.refl w).alloc (.cells #[] 3)))
  have HOR := Lib.hid (made_at ci 1 w 3 w.heap.size _ rfl (Nat.le_refl _))
  clear h hs hby
  go_enter Try.func78, Try.ntmps78
  go_wp2_with fail
  refine (HP.out k (by omega) ((nl : Int) + 1) (by omega) (by omega) _ HC.out).mono ?_
  rintro e w1 ⟨x, rfl, ⟨x0, x1⟩, hd⟩
  have HOR := Lib.hid (hd.keep hgw HOR.out)
  have HD := Lib.hid (HD.out.trans hd)
  obtain ⟨j0, rfl⟩ := Int.eq_ofNat_of_zero_le x0
  have hj0 : j0 ≤ 6 := by omega
  clear hd HC x0 x1
  go_wp2_with fail
  go_loopw [5, 6, 7] (fun u v _ wr => ∃ (j : Nat) (B : Option Addr) (m d : Nat) (l : List Int), j + m ≤ 6 ∧ v = .int .i64 j ∧ u = .slice B m d ∧ l.length = m ∧ wr.ownsRow w.heap.size 3 1 (.slice B m d) m (l.flatMap ci) ∧ Dr z g A n c (k + 62 - 8 * j) w wr) (fun _ v _ _ => (intOf v).toNat)
  case atStart => exact ⟨j0, _, 0, 0, [], by omega, rfl, rfl, rfl, HOR.out, HD.out.up (by omega)⟩
  case round =>
    clear HOR HD hj0
    obtain ⟨j, B, m, d, l, hj, rfl, rfl, hl, hor, hd⟩ := hrel
    have HL := Lib.hid hl
    have HOR := Lib.hid hor
    have HD := Lib.hid hd
    clear hl hor hd
    by_cases hj0 : 0 < j
    · go_wp2_with fail
      refine (HP.out _ (by omega) ((nl : Int)) (by omega) (by omega) _ HD.out.cur).mono ?_
      rintro e w' ⟨x, rfl, ⟨x0, x1⟩, hd⟩
      have HOR := Lib.hid (hd.keep hgw HOR.out)
      have HD := Lib.hid (HD.out.trans hd)
      clear hd
      have hxx : x ≤ 6 := by omega
      by_cases hx : 0 < x
      · have HSL := Lib.hid (Sl.of_own ci_len HOR.out HL.out (by omega))
        go_wp2_with fail
        refine (l1Has_any B m d l x _ HSL.out).mono ?_
        rintro e w2 ⟨rfl, hbn⟩
        have HOR := Lib.hid (hbn.own HOR.out)
        have HD := Lib.hid (HD.out.bl hbn)
        clear hbn HSL
        cases hh : hasB l x
        · have ho9 := HOR.out
          have hb9 := HD.out.le
          obtain ⟨i0, hi0, hz0, hz1, hz2⟩ := info_parts infoInt
          go_wp2_with (at_builtin; refine wpList_append_one _ rfl _ _ _ rfl _ 3 i0 _ 1 8 Try.underlying45 hi0 hz0 hz1 hz2 rfl (by omega) ci_len ci_one _ m l rfl x _ rfl (by first | rfl | simp) _ rfl ho9 hb9 (by unfold maxLen; omega) (by omega) ?_)
          clear hi0 hz0 hz1 hz2
          intro B6 d6 w6 ho6 hg6
          obtain ⟨l6, hl6, ho6'⟩ := int_snoc ho6
          have HOR6 := Lib.hid ho6'
          have HD6 := Lib.hid (HD.out.app hgw ho9 hg6)
          have HL6 := Lib.hid (hl6.trans (congrArg (· + 1) HL.out))
          clear ho6 ho6' hg6 hl6 ho9 hb9
          go_wp2_with fail
          first | exact ⟨⟨j - 1, B6, m + 1, d6, l6, by omega, by congr 1; omega, rfl, HL6.out, HOR6.out, HD6.out.up (by omega)⟩, by simp [intOf]; omega⟩ | (refine ⟨?_, by simp [intOf]; omega⟩; (repeat apply Exists.intro); exact ⟨⟨j - 1, B6, m + 1, d6, l6, by omega, by congr 1; omega, rfl, HL6.out, HOR6.out, HD6.out.up (by omega)⟩, rfl⟩)
        · go_wp2_with fail
          first | exact ⟨⟨j - 1, B, m, d, l, by omega, by congr 1; omega, rfl, HL.out, HOR.out, HD.out.up (by omega)⟩, by simp [intOf]; omega⟩ | (refine ⟨?_, by simp [intOf]; omega⟩; (repeat apply Exists.intro); exact ⟨⟨j - 1, B, m, d, l, by omega, by congr 1; omega, rfl, HL.out, HOR.out, HD.out.up (by omega)⟩, rfl⟩)
      · go_wp2_with fail
        first | exact ⟨⟨j - 1, B, m, d, l, by omega, by congr 1; omega, rfl, HL.out, HOR.out, HD.out.up (by omega)⟩, by simp [intOf]; omega⟩ | (refine ⟨?_, by simp [intOf]; omega⟩; (repeat apply Exists.intro); exact ⟨⟨j - 1, B, m, d, l, by omega, by congr 1; omega, rfl, HL.out, HOR.out, HD.out.up (by omega)⟩, rfl⟩)
    · obtain rfl : j = 0 := by omega
      go_wp2_with fail
      refine (HO.out _ (by omega) 16 (by omega) (by omega) _ HD.out.cur).mono ?_
      rintro e w' ⟨b, rfl, hd⟩
      have HOR := Lib.hid (hd.keep hgw HOR.out)
      have HD := Lib.hid (HD.out.trans hd)
      clear hd
      cases b
      · go_wp2_with fail
        go_ret
        exact DrOrd.own hgw HOR.out HL.out (by omega) (HD.out.up (by omega))
      · go_wp2_with fail
        refine (HA.out _ (by omega) _ 3 _ [0, 1, (nl : Int)] (by decide) (by decide) _ (sl_lit _ 3 [0, 1, (nl : Int)] (le_top (by simp))) (new_ne (Nat.lt_of_lt_of_le hgw HD.out.le)) (HD.out.cur.bl ((Bl.refl _).alloc _))).mono ?_
        rintro e w' ⟨y, rfl, _, hd⟩
        have HOR := Lib.hid (hd.keep hgw (World.ownsRow.alloc HOR.out _))
        have HD := Lib.hid ((HD.out.bl ((Bl.refl _).alloc _)).trans hd)
        clear hd
        have ho9 := HOR.out
        have hb9 := HD.out.le
        obtain ⟨i0, hi0, hz0, hz1, hz2⟩ := info_parts infoInt
        go_wp2_with (at_builtin; refine wpList_append_one _ rfl _ _ _ rfl _ 3 i0 _ 1 8 Try.underlying45 hi0 hz0 hz1 hz2 rfl (by omega) ci_len ci_one _ m l rfl y _ rfl (by first | rfl | simp) _ rfl ho9 hb9 (by unfold maxLen; omega) (by omega) ?_)
        clear hi0 hz0 hz1 hz2
        intro B6 d6 w6 ho6 hg6
        obtain ⟨l6, hl6, ho6'⟩ := int_snoc ho6
        have HOR6 := Lib.hid ho6'
        have HD6 := Lib.hid (HD.out.app hgw ho9 hg6)
        have HL6 := Lib.hid (hl6.trans (congrArg (· + 1) HL.out))
        clear ho6 ho6' hg6 hl6 ho9 hb9
        go_wp2_with fail
        go_ret
        exact DrOrd.own hgw HOR6.out HL6.out (by omega) (HD6.out.up (by omega))
/-- Pools. -/
def DrP1 (w : World) (e : Ending) (w' : World) : Prop :=
  ∃ (B : Option Addr) (m d : Nat) (l : List Pool), e = .returned (.slice B m d) ∧ Sl Pool.cs 3 w' B m l ∧ m ≤ 6 ∧ m ≤ d ∧ Bl w w'
/-- Pools, an order. -/
def DrP2 (w : World) (e : Ending) (w' : World) : Prop :=
  ∃ (B : Option Addr) (m d : Nat) (l : List Pool) (C : Option Addr) (p f : Nat) (o : List Int), e = .returned (.tuple #[.slice B m d, .slice C p f]) ∧ Sl Pool.cs 3 w' B m l ∧ m ≤ 6 ∧ m ≤ d ∧ Sl ci 1 w' C p o ∧ p ≤ 9 ∧ p ≤ f ∧ Bl w w'
/-- Pools, two numbers. -/
def DrP3 (w : World) (e : Ending) (w' : World) : Prop :=
  ∃ (B : Option Addr) (m d : Nat) (l : List Pool) (x y : Int), e = .returned (.tuple #[.slice B m d, .int .i64 x, .int .i64 y]) ∧ Sl Pool.cs 3 w' B m l ∧ m ≤ 6 ∧ m ≤ d ∧ Bl w w'
/-- A pool. -/
def DrQ1 (w : World) (e : Ending) (w' : World) : Prop := ∃ x y t : Int, e = .returned (.agg #[.int .i64 x, .int .i64 y, .int .i64 t]) ∧ Bl w w'
/-- Two pools. -/
def DrQ2 (w : World) (e : Ending) (w' : World) : Prop := ∃ x y t x' y' t' : Int, e = .returned (.tuple #[.agg #[.int .i64 x, .int .i64 y, .int .i64 t], .agg #[.int .i64 x', .int .i64 y', .int .i64 t']]) ∧ Bl w w'
section
variable (A : Option Addr) (n c : Nat) (code : List Int) (w : World) (hs : Sl cb 1 w A n code) (hby : Bytes code)
include hs hby in
set_option maxHeartbeats 2000000 in
theorem drawArePools_any : Calls Try.prog 42 #[.slice A n c] w (DrP1 w) := by
  have HB := Lib.hid (fun W hW => pools_any w w.heap.size A n c 0 code hs hby (by omega) W hW)
  have HC0 : Hid (Cur w w.heap.size A n c 0 (w.alloc (.cells #[.slice A n c, .int .i64 0, .int .u64 0] 76))) := ⟨(Bl.refl w).alloc _, Nat.le_refl _, 0, 0, Nat.le_refl _, heap_alloc_new w _⟩
  clear hs hby
  go_enter Try.func42, Try.ntmps42
  go_wp2_with fail
  refine (HB.out _ HC0.out).mono ?_
  rintro e w1 ⟨B, m, d, l, rfl, hsl, hm0, hm, hmd, hne, hd⟩
  have HSL := Lib.hid hsl
  have HD := Lib.hid hd
  clear hsl hd
  go_wp2_with fail
  go_ret
  exact ⟨B, m, d, l, rfl, HSL.out, hm, hmd, HD.out.cur.1⟩
include hs hby in
set_option maxHeartbeats 2000000 in
theorem drawLetFlow_any : Calls Try.prog 38 #[.slice A n c] w (DrP3 w) := by
  have HB := Lib.hid (fun W hW => pools_any w w.heap.size A n c 0 code hs hby (by omega) W hW)
  have HP := pick_all w w.heap.size A n c code hs hby
  have HC0 : Hid (Cur w w.heap.size A n c 0 (w.alloc (.cells #[.slice A n c, .int .i64 0, .int .u64 0] 76))) := ⟨(Bl.refl w).alloc _, Nat.le_refl _, 0, 0, Nat.le_refl _, heap_alloc_new w _⟩
  clear hs hby
  go_enter Try.func38, Try.ntmps38
  go_wp2_with fail
  refine (HB.out _ HC0.out).mono ?_
  rintro e w1 ⟨B, m, d, l, rfl, hsl, hm0, hm, hmd, hne, hd⟩
  have HSL := Lib.hid hsl
  have HNE := Lib.hid hne
  have HD := Lib.hid hd
  clear hsl hd hne
  go_wp2_with fail
  refine (HP.out _ (by omega) ((m : Int) + 1) (by omega) (by omega) _ HD.out.cur).mono ?_
  rintro e w2 ⟨x, rfl, ⟨x0, x1⟩, hd⟩
  have HSL := Lib.hid (hd.sl HSL.out HNE.out)
  have HD := Lib.hid (HD.out.trans hd)
  clear hd
  go_wp2_with fail
  refine (HP.out _ (by omega) ((m : Int) + 1) (by omega) (by omega) _ HD.out.cur).mono ?_
  rintro e w2 ⟨y, rfl, ⟨y0, y1⟩, hd⟩
  have HSL := Lib.hid (hd.sl HSL.out HNE.out)
  have HD := Lib.hid (HD.out.trans hd)
  clear hd
  go_wp2_with fail
  refine (HP.out _ (by omega) 16 (by omega) (by omega) _ HD.out.cur).mono ?_
  rintro e w3 ⟨t, rfl, ⟨t0, t1⟩, hd⟩
  have HSL := Lib.hid (hd.sl HSL.out HNE.out)
  have HD := Lib.hid (HD.out.trans hd)
  clear hd
  have hx1 : x ≤ m := by omega
  have hy1 : y ≤ m := by omega
  have hq : Int.tdiv t 15 = 0 ∨ Int.tdiv t 15 = 1 := by
    rw [Int.tdiv_eq_ediv_of_nonneg t0]; omega
  clear x1 y1 t1
  rcases hq with hq | hq
  · go_wp2_with fail
    go_ret3
    exact ⟨B, m, d, l, _, _, rfl, HSL.out, hm, hmd, HD.out.cur.1⟩
  · go_wp2_with fail
    go_ret3
    exact ⟨B, m, d, l, _, _, rfl, HSL.out, hm, hmd, HD.out.cur.1⟩
include hs hby in
set_option maxHeartbeats 2000000 in
theorem drawDrainChamber_any : Calls Try.prog 51 #[.slice A n c] w (DrP2 w) := by
  have HB := Lib.hid (fun W hW => pools_any w w.heap.size A n c 0 code hs hby (by omega) W hW)
  have HP := Lib.hid (fun k (hk : k ≤ 10000) L nl cl (hnl : nl ≤ 6) W hW => order11_any w w.heap.size A n c k code hs hby hk L nl cl hnl W hW)
  have HC0 : Hid (Cur w w.heap.size A n c 0 (w.alloc (.cells #[.slice A n c, .int .i64 0, .int .u64 0] 76))) := ⟨(Bl.refl w).alloc _, Nat.le_refl _, 0, 0, Nat.le_refl _, heap_alloc_new w _⟩
  clear hs hby
  go_enter Try.func51, Try.ntmps51
  go_wp2_with fail
  refine (HB.out _ HC0.out).mono ?_
  rintro e w1 ⟨B, m, d, l, rfl, hsl, hm0, hm, hmd, hne, hd⟩
  have HSL := Lib.hid hsl
  have HNE := Lib.hid hne
  have HD := Lib.hid hd
  clear hsl hd hne
  go_wp2_with fail
  refine (HP.out _ (by omega) B m d hm _ HD.out.cur).mono ?_
  rintro e w2 ⟨C, p, f, o, rfl, hso, hp, hpf, hne2, hd⟩
  have HSL := Lib.hid (hd.sl HSL.out HNE.out)
  have HSO := Lib.hid hso
  have HD := Lib.hid (HD.out.trans hd)
  clear hd hso hne2
  go_wp2_with fail
  go_ret2
  exact ⟨B, m, d, l, C, p, f, o, rfl, HSL.out, hm, hmd, HSO.out, hp, hpf, HD.out.cur.1⟩
include hs hby in
set_option maxHeartbeats 2000000 in
theorem drawSavedShare_any : Calls Try.prog 53 #[.slice A n c] w (DrP2 w) := by
  have HB := Lib.hid (drawDrainChamber_any A n c code w hs hby)
  clear hs hby
  go_enter Try.func53, Try.ntmps53
  go_wp2_with fail
  refine HB.out.mono ?_
  rintro e w1 ⟨B, m, d, l, C, p, f, o, rfl, hsl, hm, hmd, hso, hp, hpf, hb⟩
  go_wp2_with fail
  go_ret2
  exact ⟨B, m, d, l, C, p, f, o, rfl, hsl, hm, hmd, hso, hp, hpf, hb⟩
include hs hby in
set_option maxHeartbeats 2000000 in
theorem drawIsValidPool_any : Calls Try.prog 72 #[.slice A n c] w (DrQ1 w) := by
  have HB := Lib.hid (fun W hW => pool_any w (w.heap.size + 1) A n c 0 code hs hby (by omega) W hW)
  have HR0 : Hid ((w.alloc (.cells #[.int .i64 0, .int .i64 0, .int .i64 0] 25)).heap[w.heap.size]? = some (.cells #[.int .i64 0, .int .i64 0, .int .i64 0] 25 (0, 0))) := heap_alloc_new w _
  have hz : (w.alloc (.cells #[.int .i64 0, .int .i64 0, .int .i64 0] 25)).heap.size = w.heap.size + 1 := by simp
  have HC0 : Hid (Cur w (w.heap.size + 1) A n c 0 ((w.alloc (.cells #[.int .i64 0, .int .i64 0, .int .i64 0] 25)).alloc (.cells #[.slice A n c, .int .i64 0, .int .u64 0] 76))) := by
    refine ⟨((Bl.refl w).alloc _).alloc _, Nat.le_succ _, 0, 0, Nat.le_refl _, ?_⟩
    rw [← hz]
    exact heap_alloc_new _ _
  have ER := Lib.hid (((Bl.refl _).alloc (.cells #[.slice A n c, .int .i64 0, .int .u64 0] 76)).one HR0.out)
  clear hs hby hz HR0
  go_enter Try.func72, Try.ntmps72
  go_wp2_with fail
  refine (HB.out _ HC0.out).mono ?_
  rintro e w1 ⟨x, y, t, rfl, hd⟩
  have ER := Lib.hid (hd.blk ER.out (by omega))
  have HBW := Lib.hid hd.cur.1
  obtain ⟨r0, r1, r2⟩ := three_cell ER.out
  obtain ⟨g0, g1, g2⟩ := three_free ER.out
  clear hd HC0 HB
  go_wp2_with fail
  (try simp only [Exit.inBlock, Exit.then])
  refine bodyPost_ret (v := .agg #[.int .i64 x, .int .i64 y, .int .i64 t]) ?_ rfl ?_
  · have hres : Try.f72.results = #[.cell 2 25] := by kernel_rfl
    simp only [results, hres]
    go_simp
  · exact ⟨_, _, _, rfl, ((HBW.out.setCell (by simp) _).setCell (by simp) _).setCell (by simp) _⟩
include hs hby in
set_option maxHeartbeats 2000000 in
theorem drawLevelIn_any : Calls Try.prog 41 #[.slice A n c] w (DrQ1 w) := by
  have HB := Lib.hid (drawIsValidPool_any A n c code (w.alloc (.cells #[.int .i64 0, .int .i64 0, .int .i64 0] 25)) (hs.bl ((Bl.refl w).alloc _)) hby)
  have ER : Hid ((w.alloc (.cells #[.int .i64 0, .int .i64 0, .int .i64 0] 25)).heap[w.heap.size]? = some (.cells #[.int .i64 0, .int .i64 0, .int .i64 0] 25 (0, 0))) := heap_alloc_new w _
  clear hs hby
  go_enter Try.func41, Try.ntmps41
  go_wp2_with fail
  refine HB.out.mono ?_
  rintro e w1 ⟨x, y, t, rfl, hb⟩
  have ER := Lib.hid (hb.one ER.out)
  have HBW := Lib.hid (((Bl.refl w).alloc _).trans hb)
  obtain ⟨r0, r1, r2⟩ := three_cell ER.out
  obtain ⟨g0, g1, g2⟩ := three_free ER.out
  clear HB hb
  go_wp2_with fail
  (try simp only [Exit.inBlock, Exit.then])
  refine bodyPost_ret (v := .agg #[.int .i64 x, .int .i64 y, .int .i64 t]) ?_ rfl ?_
  · have hres : Try.f41.results = #[.cell 2 25] := by kernel_rfl
    simp only [results, hres]
    go_simp
  · exact ⟨_, _, _, rfl, ((HBW.out.setCell (by simp) _).setCell (by simp) _).setCell (by simp) _⟩
include hs hby in
set_option maxHeartbeats 2000000 in
theorem drawFlowBetween_any : Calls Try.prog 40 #[.slice A n c] w (DrQ2 w) := by
  have HB := Lib.hid (fun k (hk : k ≤ 100000) W hW => pool_any w (w.heap.size + 2) A n c k code hs hby hk W hW)
  have HR0 : Hid (((w.alloc (.cells #[.int .i64 0, .int .i64 0, .int .i64 0] 25)).alloc (.cells #[.int .i64 0, .int .i64 0, .int .i64 0] 25)).heap[w.heap.size]? = some (.cells #[.int .i64 0, .int .i64 0, .int .i64 0] 25 (0, 0))) := ((Bl.refl _).alloc _).one (heap_alloc_new w _)
  have hz1 : (w.alloc (.cells #[.int .i64 0, .int .i64 0, .int .i64 0] 25)).heap.size = w.heap.size + 1 := by simp
  have HR1 : Hid (((w.alloc (.cells #[.int .i64 0, .int .i64 0, .int .i64 0] 25)).alloc (.cells #[.int .i64 0, .int .i64 0, .int .i64 0] 25)).heap[w.heap.size + 1]? = some (.cells #[.int .i64 0, .int .i64 0, .int .i64 0] 25 (0, 0))) := by
    show _ = _
    rw [← hz1]
    exact heap_alloc_new _ _
  have hz : ((w.alloc (.cells #[.int .i64 0, .int .i64 0, .int .i64 0] 25)).alloc (.cells #[.int .i64 0, .int .i64 0, .int .i64 0] 25)).heap.size = w.heap.size + 2 := by simp
  have HC0 : Hid (Cur w (w.heap.size + 2) A n c 0 (((w.alloc (.cells #[.int .i64 0, .int .i64 0, .int .i64 0] 25)).alloc (.cells #[.int .i64 0, .int .i64 0, .int .i64 0] 25)).alloc (.cells #[.slice A n c, .int .i64 0, .int .u64 0] 76))) := by
    refine ⟨(((Bl.refl w).alloc _).alloc _).alloc _, by omega, 0, 0, Nat.le_refl _, ?_⟩
    rw [← hz]
    exact heap_alloc_new _ _
  have ER := Lib.hid (((Bl.refl _).alloc (.cells #[.slice A n c, .int .i64 0, .int .u64 0] 76)).one HR0.out)
  have ES := Lib.hid (((Bl.refl _).alloc (.cells #[.slice A n c, .int .i64 0, .int .u64 0] 76)).one HR1.out)
  clear hs hby hz hz1 HR0 HR1
  go_enter Try.func40, Try.ntmps40
  go_wp2_with fail
  refine (HB.out 0 (by omega) _ HC0.out).mono ?_
  rintro e w1 ⟨x, y, t, rfl, hd⟩
  have ER := Lib.hid (hd.blk ER.out (by omega))
  have ES := Lib.hid (hd.blk ES.out (by omega))
  have HD := Lib.hid hd
  clear hd
  go_wp2_with fail
  refine (HB.out _ (by omega) _ HD.out.cur).mono ?_
  rintro e w2 ⟨x', y', t', rfl, hd⟩
  have ER := Lib.hid (hd.blk ER.out (by omega))
  have ES := Lib.hid (hd.blk ES.out (by omega))
  have HBW := Lib.hid hd.cur.1
  obtain ⟨r0, r1, r2⟩ := three_cell ER.out
  obtain ⟨g0, g1, g2⟩ := three_free ER.out
  obtain ⟨s0, s1, s2⟩ := three_cell ES.out
  obtain ⟨f0, f1, f2⟩ := three_free ES.out
  clear hd HC0 HB HD
  go_wp2_with fail
  (try simp only [Exit.inBlock, Exit.then])
  refine bodyPost_ret (v := .tuple #[.agg #[.int .i64 x, .int .i64 y, .int .i64 t], .agg #[.int .i64 x', .int .i64 y', .int .i64 t']]) ?_ rfl ?_
  · have hres : Try.f40.results = #[.cell 2 25, .cell 3 25] := by kernel_rfl
    simp only [results, hres]
    go_simp
  · exact ⟨_, _, _, _, _, _, rfl, (((((HBW.out.setCell (by simp) _).setCell (by simp) _).setCell (by simp) _).setCell (by simp) _).setCell (by simp) _).setCell (by simp) _⟩
end
end Go.Proofs.Yteejalanjeeecaa
