/- The contracts of what is drawn of chapter 10: basins, flows. -/
import Derived.Test.YtpgghmhbkgkkiaaD3
import Derived.Test.YtpgghmhbkgkkiaaQ10
import Derived.Test.YtpgghmhbkgkkiaaLit
namespace Go.Proofs.Ytpgghmhbkgkkiaa
open Go.RowKit
theorem Flow.one (p : Flow) : ∀ u ∈ p.cs, u.oneCell' = true := by intro u hu; simp [Flow.cs] at hu; rcases hu with rfl | rfl | rfl <;> rfl
theorem basin_snoc {w : World} {B E m : Nat} {v : Value} {l : List Basin} {y : Basin} (h : w.ownsRow B E 3 v m (l.flatMap Basin.cs ++ Basin.cs y)) : ∃ l' : List Basin, l'.length = l.length + 1 ∧ w.ownsRow B E 3 v m (l'.flatMap Basin.cs) :=
  ⟨l ++ [y], by simp, by rw [List.flatMap_append]; simpa using h⟩
theorem flow_snoc {w : World} {B E m : Nat} {v : Value} {l : List Flow} {y : Flow} (h : w.ownsRow B E 3 v m (l.flatMap Flow.cs ++ Flow.cs y)) : ∃ l' : List Flow, l'.length = l.length + 1 ∧ w.ownsRow B E 3 v m (l'.flatMap Flow.cs) :=
  ⟨l ++ [y], by simp, by rw [List.flatMap_append]; simpa using h⟩
def lenOfV : Value → Nat
  | .slice _ m _ => m
  | _ => 0
/-- A flow that has been drawn. -/
def DrFlow (z : World) (g : Nat) (A : Option Addr) (n c k : Nat) (w : World) (e : Ending) (w' : World) : Prop := ∃ x y t : Int, e = .returned (.agg #[.int .i64 x, .int .i64 y, .int .i64 t]) ∧ Dr z g A n c k w w'
set_option maxRecDepth 100000 in
set_option maxHeartbeats 1600000 in
theorem flow_any (z : World) (g : Nat) (A : Option Addr) (n c k : Nat) (code : List Int) (hs : Sl cb 1 z A n code) (hby : Bytes code) (hk : k ≤ 100000) (q : Nat) (hq : q ≤ 10) (w : World) (h : Cur z g A n c k w) :
    Calls Try.prog 82 #[.pointer (some ⟨g, 0, none⟩), .int .i64 q] w (DrFlow z g A n c (k + 20) w) := by
  have HP := pick_all z g A n c code hs hby
  have HA := among_all z g A n c code hs hby
  have hgw := h.lt
  have HD := Lib.hid ((Dr.refl h).bl ((Bl.refl w).alloc (.cells #[.int .i64 0, .int .i64 0, .int .i64 0] 32)))
  have hE : (w.alloc (.cells #[.int .i64 0, .int .i64 0, .int .i64 0] 32)).heap[w.heap.size]? = some (.cells #[.int .i64 0, .int .i64 0, .int .i64 0] 32 (0, 0)) := heap_alloc_new w _
  have ER := Lib.hid hE
  clear h hs hby hE
  go_enter Try.func82, Try.ntmps82
  go_wp2_with fail
  refine (HP.out _ (by omega) ((q : Int) + 1) (by omega) (by omega) _ HD.out.cur).mono ?_
  rintro e w' ⟨x, rfl, ⟨x0, x1⟩, hd⟩
  have ER := Lib.hid (hd.blk ER.out (by omega))
  have HD := Lib.hid (HD.out.trans hd)
  clear hd
  go_wp2_with fail
  refine (HA.out _ (by omega) _ 5 _ [1, 2, 5, 10, 20] (by decide) (by decide) _ (sl_lit _ 3 [1, 2, 5, 10, 20] (le_top (by decide))) (new_ne (Nat.lt_of_lt_of_le hgw HD.out.le)) (HD.out.cur.bl ((Bl.refl _).alloc _))).mono ?_
  rintro e w' ⟨y, rfl, _, hd⟩
  have ER := Lib.hid (hd.blk (((Bl.refl _).alloc _).one ER.out) (by omega))
  have HD := Lib.hid ((HD.out.bl ((Bl.refl _).alloc _)).trans hd)
  clear hd
  have hle := HD.out.le
  have hsp := lt_of_block ER.out
  have ES : Hid ((w'.alloc (.cells #[.int .i64 (x - 1), .int .i64 0, .int .i64 y] 32)).heap[w'.heap.size]? = some (.cells #[.int .i64 (x - 1), .int .i64 0, .int .i64 y] 32 (0, 0))) := heap_alloc_new w' _
  have ER := Lib.hid (((Bl.refl w').alloc (.cells #[.int .i64 (x - 1), .int .i64 0, .int .i64 y] 32)).one ER.out)
  have HD := Lib.hid (HD.out.bl ((Bl.refl w').alloc (.cells #[.int .i64 (x - 1), .int .i64 0, .int .i64 y] 32)))
  go_wp2_with fail
  refine (HP.out _ (by omega) ((q : Int) + 1) (by omega) (by omega) _ HD.out.cur).mono ?_
  rintro e w4 ⟨t, rfl, ⟨t0, t1⟩, hd⟩
  have ER := Lib.hid (hd.blk ER.out (by omega))
  have ES := Lib.hid (hd.blk ES.out (by omega))
  have HD := Lib.hid (HD.out.trans hd)
  clear hd
  generalize hS : w'.heap.size = S at *
  clear hS
  obtain ⟨f0, f1, f2⟩ := three_free ES.out
  obtain ⟨c0, c1, c2⟩ := three_cell ES.out
  have g0w : w.heap.size ≤ S := hle
  have ES := Lib.hid (three_set1 (u := .int .i64 (t - 1)) ES.out)
  have ER := Lib.hid (other3 (b' := S) (j := 1) (u := .int .i64 (t - 1)) ER.out (by omega))
  have HD := Lib.hid (HD.out.put hgw (p := ⟨S, 1, none⟩) (by simp; omega) (.int .i64 (t - 1)))
  have hq' : (t - 1 == x - 1) = true ∨ (t - 1 == x - 1) = false := by cases (t - 1 == x - 1) <;> simp
  rcases hq' with hq' | hq'
  case' inl =>
    go_wp2_with fail
    clear f0 f1 f2 c0 c1 c2
    refine (HP.out _ (by omega) ((q : Int) + 1) (by omega) (by omega) _ HD.out.cur).mono ?_
    rintro e w5 ⟨u, rfl, ⟨u0, u1⟩, hd⟩
    have ER := Lib.hid (hd.blk ER.out (by omega))
    have ES := Lib.hid (hd.blk ES.out (by omega))
    have HD := Lib.hid (HD.out.trans hd)
    clear hd
    obtain ⟨f0, f1, f2⟩ := three_free ES.out
    obtain ⟨c0, c1, c2⟩ := three_cell ES.out
    have ES := Lib.hid (three_set1 (u := .int .i64 (u - 1)) ES.out)
    have ER := Lib.hid (other3 (b' := S) (j := 1) (u := .int .i64 (u - 1)) ER.out (by omega))
    have HD := Lib.hid (HD.out.put hgw (p := ⟨S, 1, none⟩) (by simp; omega) (.int .i64 (u - 1)))
    go_wp2_with fail
    clear f0 f1 f2 c0 c1 c2 t0 t1 u0 u1 hq'
    generalize w5.setCell ⟨S, 1, none⟩ (.int .i64 (u - 1)) = W at *
    generalize hv : u - 1 = v at *
    clear hv
  case' inr =>
    go_wp2_with fail
    clear f0 f1 f2 c0 c1 c2 t0 t1 hq'
    generalize w4.setCell ⟨S, 1, none⟩ (.int .i64 (t - 1)) = W at *
    generalize hv : t - 1 = v at *
    clear hv
  all_goals
    refine (HP.out _ (by omega) 32 (by omega) (by omega) _ HD.out.cur).mono ?_
    rintro e w6 ⟨p, rfl, _, hd⟩
    have ER := Lib.hid (hd.blk ER.out (by omega))
    have ES := Lib.hid (hd.blk ES.out (by omega))
    have HD := Lib.hid (HD.out.trans hd)
    clear hd
    have q0 : (p == 0) = true ∨ (p == 0) = false := by cases (p == 0) <;> simp
    have q1 : (p == 1) = true ∨ (p == 1) = false := by cases (p == 1) <;> simp
    rcases q0 with q0 | q0
    · clear q1
      go_wp2_with fail
      refine (HA.out _ (by omega) _ 3 _ [0, 100000, 100001] (by decide) (by decide) _ (sl_lit _ 3 [0, 100000, 100001] (le_top (by decide))) (new_ne (Nat.lt_of_lt_of_le hgw HD.out.le)) (HD.out.cur.bl ((Bl.refl _).alloc _))).mono ?_
      rintro e w' ⟨u, rfl, _, hd⟩
      have ER := Lib.hid (hd.blk (((Bl.refl _).alloc _).one ER.out) (by omega))
      have ES := Lib.hid (hd.blk (((Bl.refl _).alloc _).one ES.out) (by omega))
      have HD := Lib.hid ((HD.out.bl ((Bl.refl _).alloc _)).trans hd)
      clear hd
      obtain ⟨f0, f1, f2⟩ := three_free ES.out
      obtain ⟨c0, c1, c2⟩ := three_cell ES.out
      obtain ⟨r0, r1, r2⟩ := three_cell ER.out
      obtain ⟨g0, g1, g2⟩ := three_free ER.out
      go_wp2_with fail
      (try simp only [Exit.inBlock, Exit.then])
      refine bodyPost_ret (v := .agg #[.int .i64 (x - 1), .int .i64 v, .int .i64 u]) ?_ rfl ?_
      · have hres : Try.f82.results = #[.cell 4 32] := by kernel_rfl
        simp only [results, hres]
        go_simp
      · exact ⟨_, _, _, rfl, ((((HD.out.put hgw (by simp; omega) _).put hgw (by simp) _).put hgw (by simp) _).put hgw (by simp) _).up (by omega)⟩
    rcases q1 with q1 | q1
    · go_wp2_with fail
      refine (HA.out _ (by omega) _ 3 _ [-2, (q : Int), 0] (by decide) (by decide) _ (sl_lit _ 3 [-2, (q : Int), 0] (le_top (by simp))) (new_ne (Nat.lt_of_lt_of_le hgw HD.out.le)) (HD.out.cur.bl ((Bl.refl _).alloc _))).mono ?_
      rintro e w' ⟨u, rfl, _, hd⟩
      have ER := Lib.hid (hd.blk (((Bl.refl _).alloc _).one ER.out) (by omega))
      have ES := Lib.hid (hd.blk (((Bl.refl _).alloc _).one ES.out) (by omega))
      have HD := Lib.hid ((HD.out.bl ((Bl.refl _).alloc _)).trans hd)
      clear hd
      obtain ⟨f0, f1, f2⟩ := three_free ES.out
      obtain ⟨c0, c1, c2⟩ := three_cell ES.out
      obtain ⟨r0, r1, r2⟩ := three_cell ER.out
      obtain ⟨g0, g1, g2⟩ := three_free ER.out
      go_wp2_with fail
      (try simp only [Exit.inBlock, Exit.then])
      refine bodyPost_ret (v := .agg #[.int .i64 (x - 1), .int .i64 u, .int .i64 y]) ?_ rfl ?_
      · have hres : Try.f82.results = #[.cell 4 32] := by kernel_rfl
        simp only [results, hres]
        go_simp
      · exact ⟨_, _, _, rfl, ((((HD.out.put hgw (by simp; omega) _).put hgw (by simp) _).put hgw (by simp) _).put hgw (by simp) _).up (by omega)⟩
    obtain ⟨f0, f1, f2⟩ := three_free ES.out
    obtain ⟨c0, c1, c2⟩ := three_cell ES.out
    obtain ⟨r0, r1, r2⟩ := three_cell ER.out
    obtain ⟨g0, g1, g2⟩ := three_free ER.out
    go_wp2_with fail
    (try simp only [Exit.inBlock, Exit.then])
    refine bodyPost_ret (v := .agg #[.int .i64 (x - 1), .int .i64 v, .int .i64 y]) ?_ rfl ?_
    · have hres : Try.f82.results = #[.cell 4 32] := by kernel_rfl
      simp only [results, hres]
      go_simp
    · exact ⟨_, _, _, rfl, (((HD.out.put hgw (by simp) _).put hgw (by simp) _).put hgw (by simp) _).up (by omega)⟩
theorem flow_all (z : World) (g : Nat) (A : Option Addr) (n c : Nat) (code : List Int) (hs : Sl cb 1 z A n code) (hby : Bytes code) : Hid (∀ k, k ≤ 100000 → ∀ q : Nat, q ≤ 10 → ∀ w, Cur z g A n c k w → Calls Try.prog 82 #[.pointer (some ⟨g, 0, none⟩), .int .i64 q] w (DrFlow z g A n c (k + 20) w)) :=
  fun k hk q hq w h => flow_any z g A n c k code hs hby hk q hq w h
/-- Flows that have been drawn. -/
def DrFlows (z : World) (g : Nat) (A : Option Addr) (n c k : Nat) (w : World) (e : Ending) (w' : World) : Prop :=
  ∃ (B : Option Addr) (m d : Nat) (l : List Flow), e = .returned (.slice B m d) ∧ Sl Flow.cs 3 w' B m l ∧ m ≤ 40 ∧ m ≤ d ∧ (∀ b o s, B = some ⟨b, o, s⟩ → b ≠ g) ∧ Dr z g A n c k w w'
theorem DrFlows.own {z w w' : World} {g n c k m d : Nat} {A B : Option Addr} {l : List Flow} (hgw : g < w.heap.size) (ho : w'.ownsRow w.heap.size 32 3 (.slice B m d) m (l.flatMap Flow.cs)) (hl : l.length = m) (hm : m ≤ 40) (hd : Dr z g A n c k w w') : DrFlows z g A n c k w (.returned (.slice B m d)) w' :=
  ⟨B, m, d, l, rfl, Sl.of_own Flow.cs_len ho hl (by omega), hm, own_cap ho, own_ne ho hgw, hd⟩
set_option maxRecDepth 100000 in
set_option maxHeartbeats 4000000 in
theorem flows_any (z : World) (g : Nat) (A : Option Addr) (n c k : Nat) (code : List Int) (hs : Sl cb 1 z A n code) (hby : Bytes code) (hk : k ≤ 10000) (q : Nat) (hq : q ≤ 10) (w : World) (h : Cur z g A n c k w) :
    Calls Try.prog 72 #[.pointer (some ⟨g, 0, none⟩), .int .i64 q] w (DrFlows z g A n c (k + 400) w) := by
  have HP := pick_all z g A n c code hs hby
  have HO := one_all z g A n c code hs hby
  have H6 := flow_all z g A n c code hs hby
  have HV := Lib.hid (fun f W => l10Flow_any (q : Int) f W (by omega) (by omega))
  have hgw := h.lt
  have HC := Lib.hid (h.bl ((Bl.refl w).alloc (.cells #[] 32)))
  have HD := Lib.hid ((Dr.refl h).bl ((Bl.refl w).alloc (.cells #[] 32)))
  have HOR := Lib.hid (made_at Flow.cs 3 w 32 w.heap.size _ rfl (Nat.le_refl _))
  clear h hs hby
  go_enter Try.func72, Try.ntmps72
  go_wp2_with fail
  refine (HP.out k (by omega) 8 (by omega) (by omega) _ HC.out).mono ?_
  rintro e w1 ⟨x, rfl, ⟨x0, x1⟩, hd⟩
  have HOR := Lib.hid (hd.keep hgw HOR.out)
  have HD := Lib.hid (HD.out.trans hd)
  obtain ⟨j0, rfl⟩ := Int.eq_ofNat_of_zero_le x0
  have hj0 : j0 ≤ 7 := by omega
  clear hd HC x0 x1
  go_wp2_with fail
  go_loopw [5, 6] (fun u v wr => ∃ (j : Nat) (B : Option Addr) (m d : Nat) (l : List Flow), j + m ≤ 7 ∧ v = .int .i64 j ∧ u = .slice B m d ∧ l.length = m ∧ wr.ownsRow w.heap.size 32 3 (.slice B m d) m (l.flatMap Flow.cs) ∧ Dr z g A n c (k + 200 - 24 * j) w wr) (fun _ v _ => (intOf v).toNat)
  case atStart => exact ⟨j0, _, 0, 0, [], by omega, rfl, rfl, rfl, HOR.out, HD.out.up (by omega)⟩
  case round =>
    clear HOR HD hj0
    obtain ⟨j, B, m, d, l, hj, rfl, rfl, hl, hor, hd⟩ := hrel
    have HL := Lib.hid hl
    have HOR := Lib.hid hor
    have HD := Lib.hid hd
    clear hl hor hd
    by_cases hj0 : 0 < j
    · go_wp2_with fail
      refine (H6.out _ (by omega) q hq _ HD.out.cur).mono ?_
      rintro e w3 ⟨a0, a1, a2, rfl, hd⟩
      have HOR := Lib.hid (hd.keep hgw HOR.out)
      have HD := Lib.hid (HD.out.trans hd)
      clear hd
      have hS9 := HD.out.le
      have HOR := Lib.hid (World.ownsRow.alloc HOR.out (.cells #[.int .i64 a0, .int .i64 a1, .int .i64 a2] 32))
      have HD := Lib.hid (HD.out.bl ((Bl.refl w3).alloc (.cells #[.int .i64 a0, .int .i64 a1, .int .i64 a2] 32)))
      have ES := Lib.hid (heap_alloc_new w3 (.cells #[.int .i64 a0, .int .i64 a1, .int .i64 a2] 32))
      have hS := Lib.hid hS9
      go_wp2_with fail
      refine (HV.out ⟨a0, a1, a2⟩ _).mono ?_
      rintro e w4 ⟨rfl, hbn⟩
      have ES := Lib.hid (hbn.one ES.out)
      have HOR := Lib.hid (hbn.own HOR.out)
      have HD := Lib.hid (HD.out.bl hbn)
      clear hbn
      generalize w3.heap.size = S at *
      have hSS := hS.out
      cases validFlow (q : Int) ⟨a0, a1, a2⟩
      · go_wp2_with fail
        refine (HO.out _ (by omega) 12 (by omega) (by omega) _ HD.out.cur).mono ?_
        rintro e w5 ⟨b, rfl, hd⟩
        have HOR := Lib.hid (hd.keep hgw HOR.out)
        have ES := Lib.hid (hd.blk ES.out (by omega))
        have HD := Lib.hid (HD.out.trans hd)
        clear hd
        cases b
        · go_wp2_with fail
          first | exact ⟨⟨j - 1, B, m, d, l, by omega, by congr 1; omega, rfl, HL.out, HOR.out, HD.out.up (by omega)⟩, by simp [intOf]; omega⟩ | (refine ⟨?_, by simp [intOf]; omega⟩; (repeat apply Exists.intro); exact ⟨⟨j - 1, B, m, d, l, by omega, by congr 1; omega, rfl, HL.out, HOR.out, HD.out.up (by omega)⟩, rfl⟩)
        · obtain ⟨c0, c1, c2⟩ := three_cell ES.out
          have ho9 := HOR.out
          have hb9 := HD.out.le
          obtain ⟨i0, hi0, hz0, hz1, hz2⟩ := info_parts infoFlow
          go_wp2_with (at_builtin; refine wpList_append_one _ rfl _ _ _ rfl _ 32 i0 _ 3 24 Try.underlying45 hi0 hz0 hz1 hz2 rfl (by omega) Flow.cs_len Flow.one _ m l rfl ⟨_, _, _⟩ _ rfl (by first | rfl | simp) _ rfl ho9 hb9 (by unfold maxLen; omega) (by omega) ?_)
          clear hi0 hz0 hz1 hz2
          intro B6 d6 w6 ho6 hg6
          obtain ⟨l6, hl6, ho6'⟩ := flow_snoc ho6
          have HOR6 := Lib.hid ho6'
          have HD6 := Lib.hid (HD.out.app hgw ho9 hg6)
          have HL6 := Lib.hid (hl6.trans (congrArg (· + 1) HL.out))
          clear ho6 ho6' hg6 hl6 ho9 hb9 c0 c1 c2
          go_wp2_with fail
          first | exact ⟨⟨j - 1, B6, m + 1, d6, l6, by omega, by congr 1; omega, rfl, HL6.out, HOR6.out, HD6.out.up (by omega)⟩, by simp [intOf]; omega⟩ | (refine ⟨?_, by simp [intOf]; omega⟩; (repeat apply Exists.intro); exact ⟨⟨j - 1, B6, m + 1, d6, l6, by omega, by congr 1; omega, rfl, HL6.out, HOR6.out, HD6.out.up (by omega)⟩, rfl⟩)
      · obtain ⟨c0, c1, c2⟩ := three_cell ES.out
        have ho9 := HOR.out
        have hb9 := HD.out.le
        obtain ⟨i0, hi0, hz0, hz1, hz2⟩ := info_parts infoFlow
        go_wp2_with (at_builtin; refine wpList_append_one _ rfl _ _ _ rfl _ 32 i0 _ 3 24 Try.underlying45 hi0 hz0 hz1 hz2 rfl (by omega) Flow.cs_len Flow.one _ m l rfl ⟨_, _, _⟩ _ rfl (by first | rfl | simp) _ rfl ho9 hb9 (by unfold maxLen; omega) (by omega) ?_)
        clear hi0 hz0 hz1 hz2
        intro B6 d6 w6 ho6 hg6
        obtain ⟨l6, hl6, ho6'⟩ := flow_snoc ho6
        have HOR6 := Lib.hid ho6'
        have HD6 := Lib.hid (HD.out.app hgw ho9 hg6)
        have HL6 := Lib.hid (hl6.trans (congrArg (· + 1) HL.out))
        clear ho6 ho6' hg6 hl6 ho9 hb9 c0 c1 c2
        go_wp2_with fail
        first | exact ⟨⟨j - 1, B6, m + 1, d6, l6, by omega, by congr 1; omega, rfl, HL6.out, HOR6.out, HD6.out.up (by omega)⟩, by simp [intOf]; omega⟩ | (refine ⟨?_, by simp [intOf]; omega⟩; (repeat apply Exists.intro); exact ⟨⟨j - 1, B6, m + 1, d6, l6, by omega, by congr 1; omega, rfl, HL6.out, HOR6.out, HD6.out.up (by omega)⟩, rfl⟩)
    · obtain rfl : j = 0 := by omega
      go_wp2_with fail
      refine (HO.out _ (by omega) 24 (by omega) (by omega) _ HD.out.cur).mono ?_
      rintro e w' ⟨b, rfl, hd⟩
      have HOR := Lib.hid (hd.keep hgw HOR.out)
      have HD := Lib.hid (HD.out.trans hd)
      clear hd
      cases b
      · go_wp2_with fail
        go_ret
        exact DrFlows.own hgw HOR.out HL.out (by omega) (HD.out.up (by omega))
      · go_wp2_with fail
        go_loopw [5, 8] (fun u v wr => ∃ (j : Nat) (B : Option Addr) (m d : Nat) (l : List Flow), j ≤ 14 ∧ m ≤ 7 + j ∧ v = .int .i64 j ∧ u = .slice B m d ∧ l.length = m ∧ wr.ownsRow w.heap.size 32 3 (.slice B m d) m (l.flatMap Flow.cs) ∧ Dr z g A n c (k + 300 + 2 * j) w wr) (fun _ v _ => 14 - (intOf v).toNat)
        case atStart => exact ⟨0, B, m, d, l, by omega, by omega, rfl, rfl, HL.out, HOR.out, HD.out.up (by omega)⟩
        case round =>
          clear HL HOR HD
          obtain ⟨j, B, m, d, l, hj, hm, rfl, rfl, hl, hor, hd⟩ := hrel
          have HL := Lib.hid hl
          have HOR := Lib.hid hor
          have HD := Lib.hid hd
          clear hl hor hd
          go_wp2_with fail
          refine (HP.out _ (by omega) 2 (by omega) (by omega) _ HD.out.cur).mono ?_
          rintro e w' ⟨x, rfl, ⟨x0, x1⟩, hd⟩
          have HOR := Lib.hid (hd.keep hgw HOR.out)
          have HD := Lib.hid (HD.out.trans hd)
          clear hd
          by_cases hm2 : (m : Int) < 12 + x
          · by_cases hj2 : j < 14
            · have ho9 := HOR.out
              have hb9 := HD.out.le
              obtain ⟨i0, hi0, hz0, hz1, hz2⟩ := info_parts infoFlow
              go_wp2_with (at_builtin; refine wpList_append_one _ rfl _ _ _ rfl _ 32 i0 _ 3 24 Try.underlying45 hi0 hz0 hz1 hz2 rfl (by omega) Flow.cs_len Flow.one _ m l rfl ⟨-1, 0, 1⟩ _ rfl (by first | rfl | simp) _ rfl ho9 hb9 (by unfold maxLen; omega) (by omega) ?_)
              clear hi0 hz0 hz1 hz2
              intro B6 d6 w6 ho6 hg6
              obtain ⟨l6, hl6, ho6'⟩ := flow_snoc ho6
              have HOR6 := Lib.hid ho6'
              have HD6 := Lib.hid (HD.out.app hgw ho9 hg6)
              have HL6 := Lib.hid (hl6.trans (congrArg (· + 1) HL.out))
              clear ho6 ho6' hg6 hl6 ho9 hb9
              go_wp2_with fail
              first | exact ⟨⟨j + 1, B6, m + 1, d6, l6, by omega, by omega, by go_num, rfl, HL6.out, HOR6.out, HD6.out.up (by omega)⟩, by simp [intOf]; omega⟩ | (refine ⟨?_, by simp [intOf]; omega⟩; (repeat apply Exists.intro); exact ⟨⟨j + 1, B6, m + 1, d6, l6, by omega, by omega, by go_num, rfl, HL6.out, HOR6.out, HD6.out.up (by omega)⟩, rfl⟩)
            · go_wp2_with fail
              go_ret
              exact DrFlows.own hgw HOR.out HL.out (by omega) (HD.out.up (by omega))
          · go_wp2_with fail
            go_ret
            exact DrFlows.own hgw HOR.out HL.out (by omega) (HD.out.up (by omega))
/-- Basins that have been drawn. -/
def DrBasins (z : World) (g : Nat) (A : Option Addr) (n c k : Nat) (w : World) (e : Ending) (w' : World) : Prop :=
  ∃ (B : Option Addr) (m d : Nat) (l : List Basin), e = .returned (.slice B m d) ∧ Sl Basin.cs 3 w' B m l ∧ m ≤ 7 ∧ m ≤ d ∧ (∀ b o s, B = some ⟨b, o, s⟩ → b ≠ g ∧ w.heap.size ≤ b) ∧ Dr z g A n c k w w'
theorem DrBasins.own {z w w' : World} {g n c k m d : Nat} {A B : Option Addr} {l : List Basin} (hgw : g < w.heap.size) (ho : w'.ownsRow w.heap.size 69 3 (.slice B m d) m (l.flatMap Basin.cs)) (hl : l.length = m) (hm : m ≤ 7) (hd : Dr z g A n c k w w') : DrBasins z g A n c k w (.returned (.slice B m d)) w' :=
  ⟨B, m, d, l, rfl, Sl.of_own Basin.cs_len ho hl (by omega), hm, own_cap ho, fun b o s e => ⟨own_ne ho hgw b o s e, by subst e; exact ((own_lt ho).out b rfl).1⟩, hd⟩
set_option maxRecDepth 100000 in
set_option maxHeartbeats 4000000 in
theorem basins_any (z : World) (g : Nat) (A : Option Addr) (n c k : Nat) (code : List Int) (hs : Sl cb 1 z A n code) (hby : Bytes code) (hk : k ≤ 10000) (w : World) (h : Cur z g A n c k w) :
    Calls Try.prog 71 #[.pointer (some ⟨g, 0, none⟩)] w (DrBasins z g A n c (k + 200) w) := by
  have HP := pick_all z g A n c code hs hby
  have HA := among_all z g A n c code hs hby
  have hgw := h.lt
  have HC := Lib.hid (h.bl ((Bl.refl w).alloc (.cells #[] 69)))
  have HD := Lib.hid ((Dr.refl h).bl ((Bl.refl w).alloc (.cells #[] 69)))
  have HOR := Lib.hid (made_at Basin.cs 3 w 69 w.heap.size _ rfl (Nat.le_refl _))
  clear h hs hby
  go_enter Try.func71, Try.ntmps71
  go_wp2_with fail
  refine (HP.out k (by omega) 6 (by omega) (by omega) _ HC.out).mono ?_
  rintro e w1 ⟨x, rfl, ⟨x0, x1⟩, hd⟩
  have HOR := Lib.hid (hd.keep hgw HOR.out)
  have HD := Lib.hid (HD.out.trans hd)
  obtain ⟨j0, rfl⟩ := Int.eq_ofNat_of_zero_le x0
  have hj0 : j0 ≤ 5 := by omega
  clear hd HC x0 x1
  go_wp2_with fail
  go_loopw [3, 4, 5, 6] (fun u v _ _ wr => ∃ (j : Nat) (B : Option Addr) (m d : Nat) (l : List Basin), j + m ≤ 6 ∧ 1 ≤ j + m ∧ v = .int .i64 j ∧ u = .slice B m d ∧ l.length = m ∧ wr.ownsRow w.heap.size 69 3 (.slice B m d) m (l.flatMap Basin.cs) ∧ Dr z g A n c (k + 62 - 8 * j) w wr) (fun _ v _ _ _ => (intOf v).toNat)
  case atStart => exact ⟨1 + j0, _, 0, 0, [], by omega, by omega, by congr 1, rfl, rfl, HOR.out, HD.out.up (by omega)⟩
  case round =>
    clear HOR HD hj0
    obtain ⟨j, B, m, d, l, hj, hjm, rfl, rfl, hl, hor, hd⟩ := hrel
    have HL := Lib.hid hl
    have HOR := Lib.hid hor
    have HD := Lib.hid hd
    clear hl hor hd
    by_cases hj0 : 0 < j
    · go_wp2_with fail
      refine (HA.out _ (by omega) _ 3 _ [0, 5, 10] (by decide) (by decide) _ (sl_lit _ 3 [0, 5, 10] (le_top (by decide))) (new_ne (Nat.lt_of_lt_of_le hgw HD.out.le)) (HD.out.cur.bl ((Bl.refl _).alloc _))).mono ?_
      rintro e w' ⟨le, rfl, hle, hd⟩
      have HOR := Lib.hid (hd.keep hgw (World.ownsRow.alloc HOR.out _))
      have HD := Lib.hid ((HD.out.bl ((Bl.refl _).alloc _)).trans hd)
      clear hd
      have hl1 : 0 ≤ le ∧ le ≤ 10 := by simp at hle; omega
      obtain ⟨hl10, hl11⟩ := hl1
      clear hle
      go_wp2_with fail
      refine (HA.out _ (by omega) _ 4 _ [0, 10, 30, 60] (by decide) (by decide) _ (sl_lit _ 3 [0, 10, 30, 60] (le_top (by decide))) (new_ne (Nat.lt_of_lt_of_le hgw HD.out.le)) (HD.out.cur.bl ((Bl.refl _).alloc _))).mono ?_
      rintro e w' ⟨y, rfl, hy, hd⟩
      have HOR := Lib.hid (hd.keep hgw (World.ownsRow.alloc HOR.out _))
      have HD := Lib.hid ((HD.out.bl ((Bl.refl _).alloc _)).trans hd)
      clear hd
      have hy1 : 0 ≤ y ∧ y ≤ 60 := by simp at hy; omega
      obtain ⟨hy10, hy11⟩ := hy1
      clear hy
      go_wp2_with fail
      refine (HP.out _ (by omega) _ (by omega) (by omega) _ HD.out.cur).mono ?_
      rintro e w3 ⟨t, rfl, ⟨t0, t1⟩, hd⟩
      have HOR := Lib.hid (hd.keep hgw HOR.out)
      have HD := Lib.hid (HD.out.trans hd)
      have ht : t ≤ 61 := by omega
      clear hd t1
      have ho9 := HOR.out
      have hb9 := HD.out.le
      obtain ⟨i0, hi0, hz0, hz1, hz2⟩ := info_parts infoBasin
      go_wp2_with (at_builtin; refine wpList_append_one _ rfl _ _ _ rfl _ 69 i0 _ 3 24 Try.underlying25 hi0 hz0 hz1 hz2 rfl (by omega) Basin.cs_len Basin.one _ m l rfl ⟨_, _, _⟩ _ rfl (by first | rfl | simp) _ rfl ho9 hb9 (by unfold maxLen; omega) (by omega) ?_)
      clear hi0 hz0 hz1 hz2
      intro B6 d6 w6 ho6 hg6
      obtain ⟨l6, hl6, ho6'⟩ := basin_snoc ho6
      have HOR6 := Lib.hid ho6'
      have HD6 := Lib.hid (HD.out.app hgw ho9 hg6)
      have HL6 := Lib.hid (hl6.trans (congrArg (· + 1) HL.out))
      clear ho6 ho6' hg6 hl6 ho9 hb9
      go_wp2_with fail
      first | exact ⟨⟨j - 1, B6, m + 1, d6, l6, by omega, by omega, by congr 1; omega, rfl, HL6.out, HOR6.out, HD6.out.up (by omega)⟩, by simp [intOf]; omega⟩ | (refine ⟨?_, by simp [intOf]; omega⟩; (repeat apply Exists.intro); exact ⟨⟨j - 1, B6, m + 1, d6, l6, by omega, by omega, by congr 1; omega, rfl, HL6.out, HOR6.out, HD6.out.up (by omega)⟩, rfl⟩)
    · obtain rfl : j = 0 := by omega
      go_wp2_with fail
      refine (HP.out _ (by omega) 24 (by omega) (by omega) _ HD.out.cur).mono ?_
      rintro e w' ⟨t, rfl, ⟨t0, t1⟩, hd⟩
      have HOR := Lib.hid (hd.keep hgw HOR.out)
      have HD := Lib.hid (HD.out.trans hd)
      clear hd
      rcases own_forms HOR.out with ⟨_, h0, _, _⟩ | ⟨gb, rfl⟩
      · omega
      obtain ⟨hgb0, hgb1⟩ := (own_lt HOR.out).out gb rfl
      have q0 : (t == 0) = true ∨ (t == 0) = false := by cases (t == 0) <;> simp
      have q1 : (t == 1) = true ∨ (t == 1) = false := by cases (t == 1) <;> simp
      have q2 : (t == 2) = true ∨ (t == 2) = false := by cases (t == 2) <;> simp
      clear t0 t1
      rcases q0 with q0 | q0
      · clear q1 q2
        have hS := Sl.of_own Basin.cs_len HOR.out HL.out (by omega)
        obtain ⟨b1, o1, p, hA1, ei, ci1, ci2, ci3⟩ := hS.Basin (i := 0) (by omega)
        injection hA1 with hA1; injection hA1 with hA1 hA1'; subst hA1 hA1'
        simp only [Nat.zero_add, Nat.zero_mul] at ci1 ci2 ci3
        have k1 := ci1 _ (Bl.refl _)
        have k2 := ci2 _ (Bl.refl _)
        have k3 := ci3 _ (Bl.refl _)
        have EI := Lib.hid ei
        clear hS ci1 ci2 ci3 ei
        obtain ⟨pa, pf, pw⟩ := p
        simp only at k1 k2 k3
        have hle9 := HD.out.le
        have hz : (w'.alloc (.cells #[.int .i64 pa, .int .i64 pf, .int .i64 pw] 69)).heap.size = w'.heap.size + 1 := by simp
        have HS0 : Hid (Sl ci 1 ((w'.alloc (.cells #[.int .i64 pa, .int .i64 pf, .int .i64 pw] 69)).alloc (.cells #[.int .i64 (wrap64 (pf - 1)), .int .i64 (wrap64 (pw + 1)), .int .i64 pw] 3)) (some ⟨w'.heap.size + 1, 0, none⟩) 3 [wrap64 (pf - 1), wrap64 (pw + 1), pw]) := by
          show Sl _ _ _ _ _ _
          rw [← hz]
          exact sl_lit _ _ [wrap64 (pf - 1), wrap64 (pw + 1), pw] (le_top (by simp))
        have ES : Hid ((w'.alloc (.cells #[.int .i64 pa, .int .i64 pf, .int .i64 pw] 69)).heap[w'.heap.size]? = some (.cells #[.int .i64 pa, .int .i64 pf, .int .i64 pw] 69 (0, 0))) := heap_alloc_new w' _
        have HOR := Lib.hid (World.ownsRow.alloc HOR.out (.cells #[.int .i64 pa, .int .i64 pf, .int .i64 pw] 69))
        have HD := Lib.hid (HD.out.bl ((Bl.refl w').alloc (.cells #[.int .i64 pa, .int .i64 pf, .int .i64 pw] 69)))
        clear hz
        go_wp2_with fail
        refine (HA.out _ (by omega) _ 3 _ _ (by decide) (by decide) _ HS0.out (new_ne (H := w'.heap.size + 1) (by omega)) (HD.out.cur.bl ((Bl.refl _).alloc _))).mono ?_
        rintro e w4 ⟨u, rfl, _, hd⟩
        have ES := Lib.hid (hd.blk (((Bl.refl _).alloc _).one ES.out) (by omega))
        have HOR := Lib.hid (hd.keep hgw (World.ownsRow.alloc HOR.out _))
        have HD := Lib.hid ((HD.out.bl ((Bl.refl _).alloc _)).trans hd)
        clear hd HS0 k1 k2 k3
        obtain ⟨f0, f1, f2⟩ := three_free ES.out
        obtain ⟨c0, c1, c2⟩ := three_cell ES.out
        have fz := World.ownsRow.frozenAt HOR.out
        obtain ⟨v0, q0'⟩ := own_some HOR.out (j := 0) (by omega)
        obtain ⟨v1, q1⟩ := own_some HOR.out (j := 1) (by omega)
        obtain ⟨v2, q2⟩ := own_some HOR.out (j := 2) (by omega)
        have ng : ¬ gb = w'.heap.size := by omega
        have ng' : ¬ w'.heap.size = gb := by omega
        have HM1 : Hid (0 < m) := by show 0 < m; omega
        generalize hSS : w'.heap.size = S at *
        go_wp2_with fail
        go_ret
        refine DrBasins.own (l := l.set 0 ⟨u, pf, pw⟩) hgw ?_ ((List.length_set ..).trans HL.out) (by omega) (((((HD.out.put hgw (by simp; omega) _).put hgw (by simp; omega) _).put hgw (by simp; omega) _).put hgw (by simp; omega) _).up (by omega))
        rw [← Basin.put3 EI.out]
        exact own_set (own_set (own_set (World.ownsRow.kept HOR.out (grown_set (World.grownBy.refl _ _) 0 _) (.inr (by simp [Value.ownBlock]; omega))) _ _) _ _) _ _
      rcases q1 with q1 | q1
      · clear q2
        go_wp2_with fail
        go_ret
        exact ⟨_, 0, 0, [], rfl, Sl.of_own Basin.cs_len (made_at Basin.cs 3 w' 69 w'.heap.size _ rfl (Nat.le_refl _)) rfl (by omega), by omega, by omega, fun b o s e => ⟨new_ne (Nat.lt_of_lt_of_le hgw HD.out.le) b o s e, by injection e with e; injection e with e; have := HD.out.le; omega⟩, (HD.out.bl ((Bl.refl w').alloc _)).up (by omega)⟩
      rcases q2 with q2 | q2
      · go_wp2_with fail
        go_loopw [3] (fun u wr => ∃ (j : Nat) (B : Option Addr) (m d : Nat) (l : List Basin), j + m = 7 ∧ u = .slice B m d ∧ l.length = m ∧ wr.ownsRow w.heap.size 69 3 (.slice B m d) m (l.flatMap Basin.cs) ∧ Dr z g A n c (k + 100 - 2 * j) w wr) (fun u _ => 7 - lenOfV u)
        case atStart => exact ⟨7 - m, _, m, d, l, by omega, rfl, HL.out, HOR.out, HD.out.up (by omega)⟩
        case round =>
          clear HL HOR HD
          obtain ⟨j, B, m, d, l, hm, rfl, hl, hor, hd⟩ := hrel
          have HL := Lib.hid hl
          have HOR := Lib.hid hor
          have HD := Lib.hid hd
          clear hl hor hd
          go_wp2_with fail
          refine (HP.out _ (by omega) 2 (by omega) (by omega) _ HD.out.cur).mono ?_
          rintro e w' ⟨x, rfl, ⟨x0, x1⟩, hd⟩
          have HOR := Lib.hid (hd.keep hgw HOR.out)
          have HD := Lib.hid (HD.out.trans hd)
          clear hd
          by_cases hm2 : (m : Int) < 6 + x
          · have hm7 : m ≤ 6 := by omega
            have ho9 := HOR.out
            have hb9 := HD.out.le
            obtain ⟨i0, hi0, hz0, hz1, hz2⟩ := info_parts infoBasin
            go_wp2_with (at_builtin; refine wpList_append_one _ rfl _ _ _ rfl _ 69 i0 _ 3 24 Try.underlying25 hi0 hz0 hz1 hz2 rfl (by omega) Basin.cs_len Basin.one _ m l rfl ⟨100000, 0, 100000⟩ _ rfl (by first | rfl | simp) _ rfl ho9 hb9 (by unfold maxLen; omega) (by omega) ?_)
            clear hi0 hz0 hz1 hz2
            intro B6 d6 w6 ho6 hg6
            obtain ⟨l6, hl6, ho6'⟩ := basin_snoc ho6
            have HOR6 := Lib.hid ho6'
            have HD6 := Lib.hid (HD.out.app hgw ho9 hg6)
            have HL6 := Lib.hid (hl6.trans (congrArg (· + 1) HL.out))
            clear ho6 ho6' hg6 hl6 ho9 hb9
            go_wp2_with fail
            refine ⟨⟨6 - m, B6, m + 1, d6, l6, by omega, rfl, HL6.out, HOR6.out, HD6.out.up (by omega)⟩, by simp [lenOfV]; omega⟩
          · go_wp2_with fail
            go_ret
            exact DrBasins.own hgw HOR.out HL.out (by omega) (HD.out.up (by omega))
      · go_wp2_with fail
        go_ret
        exact DrBasins.own hgw HOR.out HL.out (by omega) (HD.out.up (by omega))
end Go.Proofs.Ytpgghmhbkgkkiaa
