/- The contracts of what is drawn of chapter 11: pools, orders. -/
import Derived.Test.YteejalanjeeecaaD3
import Derived.Test.YteejalanjeeecaaC11e
import Derived.Test.YteejalanjeeecaaLit
namespace Go.Proofs.Yteejalanjeeecaa
open Go.RowKit
theorem pool_snoc {w : World} {B E m : Nat} {v : Value} {l : List Pool} {y : Pool} (h : w.ownsRow B E 3 v m (l.flatMap Pool.cs ++ Pool.cs y)) : ∃ l' : List Pool, l'.length = l.length + 1 ∧ w.ownsRow B E 3 v m (l'.flatMap Pool.cs) :=
  ⟨l ++ [y], by simp, by rw [List.flatMap_append]; simpa using h⟩
def lenOfV : Value → Nat
  | .slice _ m _ => m
  | _ => 0
/-- A pool that has been drawn. -/
def DrPool (z : World) (g : Nat) (A : Option Addr) (n c k : Nat) (w : World) (e : Ending) (w' : World) : Prop := ∃ x y t : Int, e = .returned (.agg #[.int .i64 x, .int .i64 y, .int .i64 t]) ∧ Dr z g A n c k w w'
set_option maxRecDepth 100000 in
set_option maxHeartbeats 8000000 in
theorem pool_any (z : World) (g : Nat) (A : Option Addr) (n c k : Nat) (code : List Int) (hs : Sl cb 1 z A n code) (hby : Bytes code) (hk : k ≤ 100000) (w : World) (h : Cur z g A n c k w) :
    Calls Try.prog 71 #[.pointer (some ⟨g, 0, none⟩)] w (DrPool z g A n c (k + 10) w) := by
  have HP := pick_all z g A n c code hs hby
  have HA := among_all z g A n c code hs hby
  have hgw := h.lt
  have HD := Lib.hid ((Dr.refl h).bl ((Bl.refl w).alloc (.cells #[.int .i64 0, .int .i64 0, .int .i64 0] 25)))
  have hE : (w.alloc (.cells #[.int .i64 0, .int .i64 0, .int .i64 0] 25)).heap[w.heap.size]? = some (.cells #[.int .i64 0, .int .i64 0, .int .i64 0] 25 (0, 0)) := heap_alloc_new w _
  have ER := Lib.hid hE
  have hz : (w.alloc (.cells #[.int .i64 0, .int .i64 0, .int .i64 0] 25)).heap.size = w.heap.size + 1 := by simp
  have HS0 : Hid (Sl ci 1 ((w.alloc (.cells #[.int .i64 0, .int .i64 0, .int .i64 0] 25)).alloc (.cells #[.int .i64 1, .int .i64 2, .int .i64 3, .int .i64 10, .int .i64 100] 3)) (some ⟨w.heap.size + 1, 0, none⟩) 5 [1, 2, 3, 10, 100]) := by
    show Sl _ _ _ _ _ _
    rw [← hz]
    exact sl_lit _ _ [1, 2, 3, 10, 100] (le_top (by decide))
  clear h hs hby hE hz
  go_enter Try.func71, Try.ntmps71
  go_wp2_with fail
  refine (HA.out k (by omega) _ 5 _ _ (by decide) (by decide) _ HS0.out (new_ne (H := w.heap.size + 1) (by omega)) (HD.out.cur.bl ((Bl.refl _).alloc _))).mono ?_
  rintro e w1 ⟨x, rfl, _, hd⟩
  have ER := Lib.hid (hd.blk (((Bl.refl _).alloc _).one ER.out) (by omega))
  have HD := Lib.hid ((HD.out.bl ((Bl.refl _).alloc _)).trans hd)
  clear hd HS0
  go_wp2_with fail
  refine (HA.out _ (by omega) _ 6 _ [0, 0, 5, 20, 100, 2000] (by decide) (by decide) _ (sl_lit _ 3 [0, 0, 5, 20, 100, 2000] (le_top (by decide))) (new_ne (Nat.lt_of_lt_of_le hgw HD.out.le)) (HD.out.cur.bl ((Bl.refl _).alloc _))).mono ?_
  rintro e w' ⟨y, rfl, _, hd⟩
  have ER := Lib.hid (hd.blk (((Bl.refl _).alloc _).one ER.out) (by omega))
  have HD := Lib.hid ((HD.out.bl ((Bl.refl _).alloc _)).trans hd)
  clear hd
  go_wp2_with fail
  refine (HA.out _ (by omega) _ 7 _ [0, 0, 1, 7, 100, 5000, 100000] (by decide) (by decide) _ (sl_lit _ 3 [0, 0, 1, 7, 100, 5000, 100000] (le_top (by decide))) (new_ne (Nat.lt_of_lt_of_le hgw HD.out.le)) (HD.out.cur.bl ((Bl.refl _).alloc _))).mono ?_
  rintro e w' ⟨t, rfl, _, hd⟩
  have ER := Lib.hid (hd.blk (((Bl.refl _).alloc _).one ER.out) (by omega))
  have HD := Lib.hid ((HD.out.bl ((Bl.refl _).alloc _)).trans hd)
  clear hd
  have hle := HD.out.le
  have hsp := lt_of_block ER.out
  have ES : Hid ((w'.alloc (.cells #[.int .i64 x, .int .i64 y, .int .i64 t] 25)).heap[w'.heap.size]? = some (.cells #[.int .i64 x, .int .i64 y, .int .i64 t] 25 (0, 0))) := heap_alloc_new w' _
  have ER := Lib.hid (((Bl.refl w').alloc (.cells #[.int .i64 x, .int .i64 y, .int .i64 t] 25)).one ER.out)
  have HD := Lib.hid (HD.out.bl ((Bl.refl w').alloc (.cells #[.int .i64 x, .int .i64 y, .int .i64 t] 25)))
  go_wp2_with fail
  refine (HP.out _ (by omega) 80 (by omega) (by omega) _ HD.out.cur).mono ?_
  rintro e w4 ⟨p, rfl, _, hd⟩
  have ER := Lib.hid (hd.blk ER.out (by omega))
  have ES := Lib.hid (hd.blk ES.out (by omega))
  have HD := Lib.hid (HD.out.trans hd)
  clear hd
  generalize hS : w'.heap.size = S at *
  clear hS
  have q0 : (p == 0) = true ∨ (p == 0) = false := by cases (p == 0) <;> simp
  have q1 : (p == 1) = true ∨ (p == 1) = false := by cases (p == 1) <;> simp
  have q2 : (p == 2) = true ∨ (p == 2) = false := by cases (p == 2) <;> simp
  rcases q0 with q0 | q0
  · clear q1 q2
    go_wp2_with fail
    refine (HA.out _ (by omega) _ 2 _ [0, 101] (by decide) (by decide) _ (sl_lit _ 3 [0, 101] (le_top (by decide))) (new_ne (Nat.lt_of_lt_of_le hgw HD.out.le)) (HD.out.cur.bl ((Bl.refl _).alloc _))).mono ?_
    rintro e w' ⟨u, rfl, _, hd⟩
    have ER := Lib.hid (hd.blk (((Bl.refl _).alloc _).one ER.out) (by omega))
    have ES := Lib.hid (hd.blk (((Bl.refl _).alloc _).one ES.out) (by omega))
    have HD := Lib.hid ((HD.out.bl ((Bl.refl _).alloc _)).trans hd)
    clear hd
    obtain ⟨f0, f1, f2⟩ := three_free ES.out
    obtain ⟨c0, c1, c2⟩ := three_cell ES.out
    obtain ⟨r0, r1, r2⟩ := three_cell ER.out
    obtain ⟨g0, g1, g2⟩ := three_free ER.out
    go_wp2_with fail
    (try simp only [Exit.inBlock, Exit.then])
    refine bodyPost_ret (v := .agg #[.int .i64 u, .int .i64 y, .int .i64 t]) ?_ rfl ?_
    · have hres : Try.f71.results = #[.cell 2 25] := by kernel_rfl
      simp only [results, hres]
      go_simp
    · exact ⟨_, _, _, rfl, ((((HD.out.put hgw (by simp; omega) _).put hgw (by simp) _).put hgw (by simp) _).put hgw (by simp) _).up (by omega)⟩
  rcases q1 with q1 | q1
  · clear q2
    go_wp2_with fail
    refine (HA.out _ (by omega) _ 2 _ [-1, 2001] (by decide) (by decide) _ (sl_lit _ 3 [-1, 2001] (le_top (by decide))) (new_ne (Nat.lt_of_lt_of_le hgw HD.out.le)) (HD.out.cur.bl ((Bl.refl _).alloc _))).mono ?_
    rintro e w' ⟨u, rfl, _, hd⟩
    have ER := Lib.hid (hd.blk (((Bl.refl _).alloc _).one ER.out) (by omega))
    have ES := Lib.hid (hd.blk (((Bl.refl _).alloc _).one ES.out) (by omega))
    have HD := Lib.hid ((HD.out.bl ((Bl.refl _).alloc _)).trans hd)
    clear hd
    obtain ⟨f0, f1, f2⟩ := three_free ES.out
    obtain ⟨c0, c1, c2⟩ := three_cell ES.out
    obtain ⟨r0, r1, r2⟩ := three_cell ER.out
    obtain ⟨g0, g1, g2⟩ := three_free ER.out
    go_wp2_with fail
    (try simp only [Exit.inBlock, Exit.then])
    refine bodyPost_ret (v := .agg #[.int .i64 x, .int .i64 u, .int .i64 t]) ?_ rfl ?_
    · have hres : Try.f71.results = #[.cell 2 25] := by kernel_rfl
      simp only [results, hres]
      go_simp
    · exact ⟨_, _, _, rfl, ((((HD.out.put hgw (by simp; omega) _).put hgw (by simp) _).put hgw (by simp) _).put hgw (by simp) _).up (by omega)⟩
  rcases q2 with q2 | q2
  · skip
    go_wp2_with fail
    refine (HA.out _ (by omega) _ 2 _ [-1, 100001] (by decide) (by decide) _ (sl_lit _ 3 [-1, 100001] (le_top (by decide))) (new_ne (Nat.lt_of_lt_of_le hgw HD.out.le)) (HD.out.cur.bl ((Bl.refl _).alloc _))).mono ?_
    rintro e w' ⟨u, rfl, _, hd⟩
    have ER := Lib.hid (hd.blk (((Bl.refl _).alloc _).one ER.out) (by omega))
    have ES := Lib.hid (hd.blk (((Bl.refl _).alloc _).one ES.out) (by omega))
    have HD := Lib.hid ((HD.out.bl ((Bl.refl _).alloc _)).trans hd)
    clear hd
    obtain ⟨f0, f1, f2⟩ := three_free ES.out
    obtain ⟨c0, c1, c2⟩ := three_cell ES.out
    obtain ⟨r0, r1, r2⟩ := three_cell ER.out
    obtain ⟨g0, g1, g2⟩ := three_free ER.out
    go_wp2_with fail
    (try simp only [Exit.inBlock, Exit.then])
    refine bodyPost_ret (v := .agg #[.int .i64 x, .int .i64 y, .int .i64 u]) ?_ rfl ?_
    · have hres : Try.f71.results = #[.cell 2 25] := by kernel_rfl
      simp only [results, hres]
      go_simp
    · exact ⟨_, _, _, rfl, ((((HD.out.put hgw (by simp; omega) _).put hgw (by simp) _).put hgw (by simp) _).put hgw (by simp) _).up (by omega)⟩
  obtain ⟨f0, f1, f2⟩ := three_free ES.out
  obtain ⟨c0, c1, c2⟩ := three_cell ES.out
  obtain ⟨r0, r1, r2⟩ := three_cell ER.out
  obtain ⟨g0, g1, g2⟩ := three_free ER.out
  go_wp2_with fail
  (try simp only [Exit.inBlock, Exit.then])
  refine bodyPost_ret (v := .agg #[.int .i64 x, .int .i64 y, .int .i64 t]) ?_ rfl ?_
  · have hres : Try.f71.results = #[.cell 2 25] := by kernel_rfl
    simp only [results, hres]
    go_simp
  · exact ⟨_, _, _, rfl, (((HD.out.put hgw (by simp) _).put hgw (by simp) _).put hgw (by simp) _).up (by omega)⟩
theorem pool_all (z : World) (g : Nat) (A : Option Addr) (n c : Nat) (code : List Int) (hs : Sl cb 1 z A n code) (hby : Bytes code) : Hid (∀ k, k ≤ 100000 → ∀ w, Cur z g A n c k w → Calls Try.prog 71 #[.pointer (some ⟨g, 0, none⟩)] w (DrPool z g A n c (k + 10) w)) :=
  fun k hk w h => pool_any z g A n c k code hs hby hk w h
/-- Pools that have been drawn. -/
def DrPools (z : World) (g : Nat) (A : Option Addr) (n c k : Nat) (w : World) (e : Ending) (w' : World) : Prop :=
  ∃ (B : Option Addr) (m d : Nat) (l : List Pool), e = .returned (.slice B m d) ∧ Sl Pool.cs 3 w' B m l ∧ 1 ≤ m ∧ m ≤ 6 ∧ m ≤ d ∧ (∀ b o s, B = some ⟨b, o, s⟩ → b ≠ g) ∧ Dr z g A n c k w w'
theorem DrPools.own {z w w' : World} {g n c k m d : Nat} {A B : Option Addr} {l : List Pool} (hgw : g < w.heap.size) (ho : w'.ownsRow w.heap.size 25 3 (.slice B m d) m (l.flatMap Pool.cs)) (hl : l.length = m) (h1 : 1 ≤ m) (hm : m ≤ 6) (hd : Dr z g A n c k w w') : DrPools z g A n c k w (.returned (.slice B m d)) w' :=
  ⟨B, m, d, l, rfl, Sl.of_own Pool.cs_len ho hl (by omega), h1, hm, own_cap ho, own_ne ho hgw, hd⟩
set_option maxRecDepth 100000 in
set_option maxHeartbeats 8000000 in
theorem pools_any (z : World) (g : Nat) (A : Option Addr) (n c k : Nat) (code : List Int) (hs : Sl cb 1 z A n code) (hby : Bytes code) (hk : k ≤ 10000) (w : World) (h : Cur z g A n c k w) :
    Calls Try.prog 69 #[.pointer (some ⟨g, 0, none⟩)] w (DrPools z g A n c (k + 200) w) := by
  have HP := pick_all z g A n c code hs hby
  have HO := one_all z g A n c code hs hby
  have HA := among_all z g A n c code hs hby
  have H6 := pool_all z g A n c code hs hby
  have hgw := h.lt
  have HD := Lib.hid (Dr.refl h)
  clear h hs hby
  go_enter Try.func69, Try.ntmps69
  go_wp2_with fail
  refine (H6.out _ (by omega) _ HD.out.cur).mono ?_
  rintro e w1 ⟨p0, p1, p2, rfl, hd⟩
  have HD := Lib.hid (HD.out.trans hd)
  clear hd
  have hle := HD.out.le
  have HOR : Hid ((w1.alloc (.cells #[.int .i64 p0, .int .i64 p1, .int .i64 p2] 25)).ownsRow w.heap.size 25 3 (.slice (some ⟨w1.heap.size, 0, none⟩) 1 1) 1 ([(⟨p0, p1, p2⟩ : Pool)].flatMap Pool.cs)) := own_lits Pool.cs 3 Pool.cs_len w1 25 w.heap.size w1.heap.size [⟨p0, p1, p2⟩] rfl hle (by simp)
  have HD : Hid (Dr z g A n c (k + 10) w (w1.alloc (.cells #[.int .i64 p0, .int .i64 p1, .int .i64 p2] 25))) := HD.out.bl ((Bl.refl w1).alloc _)
  go_wp2_with fail
  refine (HP.out _ (by omega) 4 (by omega) (by omega) _ HD.out.cur).mono ?_
  rintro e w2 ⟨x, rfl, ⟨x0, x1⟩, hd⟩
  have HOR := Lib.hid (hd.keep hgw HOR.out)
  have HD := Lib.hid (HD.out.trans hd)
  obtain ⟨j0, rfl⟩ := Int.eq_ofNat_of_zero_le x0
  have hj0 : j0 ≤ 3 := by omega
  clear hd x0 x1
  go_wp2_with fail
  go_loopw [3, 4] (fun u v wr => ∃ (j : Nat) (B : Option Addr) (m d : Nat) (l : List Pool), j + m ≤ 5 ∧ 1 ≤ m ∧ v = .int .i64 j ∧ u = .slice B m d ∧ l.length = m ∧ wr.ownsRow w.heap.size 25 3 (.slice B m d) m (l.flatMap Pool.cs) ∧ Dr z g A n c (k + 62 - 12 * j) w wr) (fun _ v _ => (intOf v).toNat)
  case atStart => exact ⟨1 + j0, _, 1, 1, [⟨p0, p1, p2⟩], by omega, by omega, by congr 1, rfl, rfl, HOR.out, HD.out.up (by omega)⟩
  case round =>
    clear HOR HD hj0
    obtain ⟨j, B, m, d, l, hj, hm1, rfl, rfl, hl, hor, hd⟩ := hrel
    have HL := Lib.hid hl
    have HOR := Lib.hid hor
    have HD := Lib.hid hd
    clear hl hor hd
    by_cases hj0 : 0 < j
    · go_wp2_with fail
      refine (H6.out _ (by omega) _ HD.out.cur).mono ?_
      rintro e w3 ⟨a0, a1, a2, rfl, hd⟩
      have HOR := Lib.hid (hd.keep hgw HOR.out)
      have HD := Lib.hid (HD.out.trans hd)
      clear hd
      have ho9 := HOR.out
      have hb9 := HD.out.le
      obtain ⟨i0, hi0, hz0, hz1, hz2⟩ := info_parts infoPool
      go_wp2_with (at_builtin; refine wpList_append_one _ rfl _ _ _ rfl _ 25 i0 _ 3 24 Try.underlying36 hi0 hz0 hz1 hz2 rfl (by omega) Pool.cs_len Pool.one _ m l rfl ⟨_, _, _⟩ _ rfl (by first | rfl | simp) _ rfl ho9 hb9 (by unfold maxLen; omega) (by omega) ?_)
      clear hi0 hz0 hz1 hz2
      intro B6 d6 w6 ho6 hg6
      obtain ⟨l6, hl6, ho6'⟩ := pool_snoc ho6
      have HOR6 := Lib.hid ho6'
      have HD6 := Lib.hid (HD.out.app hgw ho9 hg6)
      have HL6 := Lib.hid (hl6.trans (congrArg (· + 1) HL.out))
      clear ho6 ho6' hg6 hl6 ho9 hb9
      go_wp2_with fail
      first | exact ⟨⟨j - 1, B6, m + 1, d6, l6, by omega, by omega, by congr 1; omega, rfl, HL6.out, HOR6.out, HD6.out.up (by omega)⟩, by simp [intOf]; omega⟩ | (refine ⟨?_, by simp [intOf]; omega⟩; (repeat apply Exists.intro); exact ⟨⟨j - 1, B6, m + 1, d6, l6, by omega, by omega, by congr 1; omega, rfl, HL6.out, HOR6.out, HD6.out.up (by omega)⟩, rfl⟩)
    · obtain rfl : j = 0 := by omega
      go_wp2_with fail
      refine (HO.out _ (by omega) 2 (by omega) (by omega) _ HD.out.cur).mono ?_
      rintro e w' ⟨b, rfl, hd⟩
      have HOR := Lib.hid (hd.keep hgw HOR.out)
      have HD := Lib.hid (HD.out.trans hd)
      clear hd
      rcases own_forms HOR.out with ⟨_, h0, _, _⟩ | ⟨gb, rfl⟩
      · omega
      obtain ⟨hgb0, hgb1⟩ := (own_lt HOR.out).out gb rfl
      cases b
      case' true =>
        have hS := Sl.of_own Pool.cs_len HOR.out HL.out (by omega)
        obtain ⟨b1, o1, p, hA1, ei, ci1, ci2, ci3⟩ := hS.Pool (i := 0) (by omega)
        injection hA1 with hA1; injection hA1 with hA1 hA1'; subst hA1 hA1'
        simp only [Nat.zero_add, Nat.zero_mul] at ci1 ci2 ci3
        have k1 := ci1 _ (Bl.refl _)
        have k2 := ci2 _ (Bl.refl _)
        have k3 := ci3 _ (Bl.refl _)
        have EI := Lib.hid ei
        clear hS ci1 ci2 ci3 ei
        obtain ⟨pa, pf, pw⟩ := p
        simp only at k1 k2 k3
        have hle9 := HD.out.le
        have hz : (w'.alloc (.cells #[.int .i64 pa, .int .i64 pf, .int .i64 pw] 25)).heap.size = w'.heap.size + 1 := by simp
        have HS0 : Hid (Sl ci 1 ((w'.alloc (.cells #[.int .i64 pa, .int .i64 pf, .int .i64 pw] 25)).alloc (.cells #[.int .i64 1000, .int .i64 5000, .int .i64 99999] 3)) (some ⟨w'.heap.size + 1, 0, none⟩) 3 [1000, 5000, 99999]) := by
          show Sl _ _ _ _ _ _
          rw [← hz]
          exact sl_lit _ _ [1000, 5000, 99999] (le_top (by decide))
        have ES : Hid ((w'.alloc (.cells #[.int .i64 pa, .int .i64 pf, .int .i64 pw] 25)).heap[w'.heap.size]? = some (.cells #[.int .i64 pa, .int .i64 pf, .int .i64 pw] 25 (0, 0))) := heap_alloc_new w' _
        have HOR := Lib.hid (World.ownsRow.alloc HOR.out (.cells #[.int .i64 pa, .int .i64 pf, .int .i64 pw] 25))
        have HD := Lib.hid (HD.out.bl ((Bl.refl w').alloc (.cells #[.int .i64 pa, .int .i64 pf, .int .i64 pw] 25)))
        clear hz
        go_wp2_with fail
        refine (HA.out _ (by omega) _ 3 _ _ (by decide) (by decide) _ HS0.out (new_ne (H := w'.heap.size + 1) (by omega)) (HD.out.cur.bl ((Bl.refl _).alloc _))).mono ?_
        rintro e w4 ⟨u, rfl, _, hd⟩
        have ES := Lib.hid (hd.blk (((Bl.refl _).alloc _).one ES.out) (by omega))
        have HOR := Lib.hid (hd.keep hgw (World.ownsRow.alloc HOR.out _))
        have HD := Lib.hid ((HD.out.bl ((Bl.refl _).alloc _)).trans hd)
        clear hd HS0 k1 k2 k3
        obtain ⟨f0, f1, f2⟩ := three_free ES.out
        obtain ⟨c0, c1, c2⟩ := three_cell ES.out
        have fz := World.ownsRow.frozenAt HOR.out
        obtain ⟨v0, q0⟩ := own_some HOR.out (j := 0) (by omega)
        obtain ⟨v1, q1⟩ := own_some HOR.out (j := 1) (by omega)
        obtain ⟨v2, q2⟩ := own_some HOR.out (j := 2) (by omega)
        have ng : ¬ gb = w'.heap.size := by omega
        have ng' : ¬ w'.heap.size = gb := by omega
        have HM1 : Hid (0 < m) := by show 0 < m; omega
        generalize hSS : w'.heap.size = S at *
        have HX : Hid (∃ l' : List Pool, Hid (l'.length = m) ∧ Hid (((((w4.setCell ⟨S, 2, none⟩ (.int .i64 u)).setCell ⟨gb, 0, none⟩ (.int .i64 pa)).setCell ⟨gb, 1, none⟩ (.int .i64 pf)).setCell ⟨gb, 2, none⟩ (.int .i64 u)).ownsRow w.heap.size 25 3 (.slice (some ⟨gb, 0, none⟩) m d) m (l'.flatMap Pool.cs)) ∧ Hid (Dr z g A n c (k + 80) w ((((w4.setCell ⟨S, 2, none⟩ (.int .i64 u)).setCell ⟨gb, 0, none⟩ (.int .i64 pa)).setCell ⟨gb, 1, none⟩ (.int .i64 pf)).setCell ⟨gb, 2, none⟩ (.int .i64 u)))) := by
          refine ⟨l.set 0 ⟨pa, pf, u⟩, (List.length_set ..).trans HL.out, ?_, ?_⟩
          · show World.ownsRow _ _ _ _ _ _ _
            rw [← Pool.put3 EI.out]
            exact own_set (own_set (own_set (World.ownsRow.kept HOR.out (grown_set (World.grownBy.refl _ _) 2 _) (.inr (by simp [Value.ownBlock]; omega))) _ _) _ _) _ _
          · exact ((((HD.out.put hgw (by simp; omega) _).put hgw (by simp; omega) _).put hgw (by simp; omega) _).put hgw (by simp; omega) _).up (by omega)
        go_wp2_with fail
        clear HOR HD HL f0 f1 f2 c0 c1 c2 fz q0 q1 q2 ng ng' ES EI hSS
      case' false =>
        have HX : Hid (∃ l' : List Pool, Hid (l'.length = m) ∧ Hid (w'.ownsRow w.heap.size 25 3 (.slice (some ⟨gb, 0, none⟩) m d) m (l'.flatMap Pool.cs)) ∧ Hid (Dr z g A n c (k + 80) w w')) := ⟨l, HL, HOR, HD.out.up (by omega)⟩
        go_wp2_with fail
        clear HOR HD HL
      all_goals
        obtain ⟨l, HL, HOR, HD⟩ := HX.out
        clear HX
        refine (HP.out _ (by omega) 40 (by omega) (by omega) _ HD.out.cur).mono ?_
        rintro e w5 ⟨t, rfl, _, hd⟩
        have HOR := Lib.hid (hd.keep hgw HOR.out)
        have HD := Lib.hid (HD.out.trans hd)
        clear hd
        by_cases ht0 : t = 0
        · subst ht0
          have hcap := own_cap HOR.out
          have HS1 := Lib.hid ((Sl.of_own Pool.cs_len HOR.out HL.out (by omega)).take_ (i := 1) (by omega))
          have hne := own_ne HOR.out hgw
          have HNE := Lib.hid hne
          clear hne
          go_wp2_with fail
          go_ret
          exact ⟨_, 1, _, _, rfl, HS1.out, by omega, by omega, by omega, HNE.out, HD.out.up (by omega)⟩
        have hq0 : (t == 0) = false := by simpa using ht0
        by_cases ht1 : t = 1
        · subst ht1
          clear ht0 hq0
          go_wp2_with fail
          go_loopw [3] (fun u wr => ∃ (B : Option Addr) (m d : Nat) (l : List Pool), u = .slice B m d ∧ l.length = m ∧ 1 ≤ m ∧ m ≤ 6 ∧ wr.ownsRow w.heap.size 25 3 (.slice B m d) m (l.flatMap Pool.cs) ∧ Dr z g A n c (k + 100) w wr) (fun u _ => 6 - lenOfV u)
          case atStart => exact ⟨_, m, d, l, rfl, HL.out, by omega, by omega, HOR.out, HD.out.up (by omega)⟩
          case round =>
            clear HL HOR HD
            obtain ⟨B, m, d, l, rfl, hl, hm0, hm, hor, hd⟩ := hrel
            have HL := Lib.hid hl
            have HOR := Lib.hid hor
            have HD := Lib.hid hd
            clear hl hor hd
            by_cases h1 : m < 6
            · have ho9 := HOR.out
              have hb9 := HD.out.le
              obtain ⟨i0, hi0, hz0, hz1, hz2⟩ := info_parts infoPool
              go_wp2_with (at_builtin; refine wpList_append_one _ rfl _ _ _ rfl _ 25 i0 _ 3 24 Try.underlying36 hi0 hz0 hz1 hz2 rfl (by omega) Pool.cs_len Pool.one _ m l rfl ⟨1, 0, 0⟩ _ rfl (by first | rfl | simp) _ rfl ho9 hb9 (by unfold maxLen; omega) (by omega) ?_)
              clear hi0 hz0 hz1 hz2
              intro B6 d6 w6 ho6 hg6
              obtain ⟨l6, hl6, ho6'⟩ := pool_snoc ho6
              have HOR6 := Lib.hid ho6'
              have HD6 := Lib.hid (HD.out.app hgw ho9 hg6)
              have HL6 := Lib.hid (hl6.trans (congrArg (· + 1) HL.out))
              clear ho6 ho6' hg6 hl6 ho9 hb9
              go_wp2_with fail
              refine ⟨⟨B6, m + 1, d6, l6, rfl, HL6.out, by omega, by omega, HOR6.out, HD6.out.up (by omega)⟩, by simp [lenOfV]; omega⟩
            · have h6 : m = 6 := by omega
              subst h6
              go_wp2_with fail
              go_ret
              exact DrPools.own hgw HOR.out HL.out (by omega) (by omega) (HD.out.up (by omega))
        · have hq1 : (t == 1) = false := by simpa using ht1
          go_wp2_with fail
          go_ret
          exact DrPools.own hgw HOR.out HL.out (by omega) (by omega) (HD.out.up (by omega))
theorem pools_all (z : World) (g : Nat) (A : Option Addr) (n c : Nat) (code : List Int) (hs : Sl cb 1 z A n code) (hby : Bytes code) : Hid (∀ k, k ≤ 10000 → ∀ w, Cur z g A n c k w → Calls Try.prog 69 #[.pointer (some ⟨g, 0, none⟩)] w (DrPools z g A n c (k + 200) w)) :=
  fun k hk w h => pools_any z g A n c k code hs hby hk w h
end Go.Proofs.Yteejalanjeeecaa
