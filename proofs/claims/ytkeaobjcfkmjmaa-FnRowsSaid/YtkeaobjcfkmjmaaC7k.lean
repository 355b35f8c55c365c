/- The contract of ShortestRow in the program. -/
import Derived.Test.YtkeaobjcfkmjmaaC7j
import Derived.Deep.RegionHeld3
namespace Go.Proofs.Ytkeaobjcfkmjmaa
open Go.RowKit Go.Shelf
theorem one_at (w : World) (v : Value) (T : TypeId) : (w.alloc (.cells #[v] T)).heap[w.heap.size]? = some (.cells #[v] T (0, 0)) := heap_alloc_new w _
set_option maxHeartbeats 1000000 in
/-- The sorting by Id, of no vessel too. -/
theorem sortAll_any (B : Nat) (A : Option Addr) (n c : Nat) (l : List Cargo) (w : World) (hok : cargoOk l = true) (hn : l.length = n) (ho : w.ownsRow B 50 3 (.slice A n c) n (l.flatMap Cargo.cs)) :
    Calls Try.prog 74 #[.slice A n c, .func (.func 75) #[] #[]] w fun e w' => e = .returned (.tuple #[]) ∧ w.grownBy w' (Value.slice A n c).ownBlock ∧ w'.ownsRow B 50 3 (.slice A n c) n ((ascC l).flatMap Cargo.cs) := by
  rcases own_forms ho with ⟨rfl, rfl, rfl, hx⟩ | ⟨g, rfl⟩
  · obtain rfl := List.eq_nil_of_length_eq_zero hn
    have hS := AnyF.slices_SortFunc_none (P := Try.prog) (ρ := Try.sortC_ren) { Try.sortC with } none 0 (.func (.func 75) #[] #[]) w
    change Calls Try.prog 74 _ _ _ at hS
    refine (show Calls Try.prog 74 #[.slice none 0 0, .func (.func 75) #[] #[]] w _ from hS).mono ?_
    rintro e w' ⟨rfl, rfl⟩
    exact ⟨rfl, (Bl.refl _).grownBy _, World.ownsRow_nil _ _ _ _⟩
  · refine (sortById_any B g n c l w hok hn ho).mono ?_
    rintro e w' ⟨rfl, hg, ho'⟩
    exact ⟨rfl, hg, ho'⟩
theorem implShort_start (A : Option Addr) (n c : Nat) (SA : Option Addr) (sc : Nat) (xs : List Value) (w w2 w3 : World) (hb : Bl (w.alloc (.cells #[.slice A n c] 28)) w2) (ho : w2.ownsRow (w.heap.size + 1) 50 3 (.slice SA n sc) n xs)
    (hg : (w2.alloc (.cells #[.slice SA n sc] 28)).grownBy w3 (Value.slice SA n sc).ownBlock) (q s r : Nat) (hq : w.heap.size = q) (hs : w2.heap.size = s) (hr : w3.heap.size = r) (V : World)
    (hV : V = (((((w3.alloc (.cells #[] 50)).alloc (.cells #[.slice (some ⟨r, 0, none⟩) 0 0] 28)).alloc (.cells #[.int .i64 (-1)] 3)).alloc (.cells #[.func (.func 76) #[] #[.pointer (some ⟨s, 0, none⟩), .pointer (some ⟨r + 3, 0, none⟩), .pointer (some ⟨q, 0, none⟩), .pointer (some ⟨r + 2, 0, none⟩), .pointer (some ⟨r + 1, 0, none⟩)]] 86)).alloc (.cells #[] 50))) :
    q < r ∧ s < r ∧ w3.heap[q]? = some (.cells #[.slice A n c] 28 (0, 0)) ∧ w3.heap[s]? = some (.cells #[.slice SA n sc] 28 (0, 0)) ∧ Bl w w3 ∧ Bl w3 V ∧ CapC q s r V ∧ StC r ([], -1) V ∧ RowY Cargo.cs 3 (r + 1) (r + 2) r 50 V (.slice (some ⟨r + 4, 0, none⟩) 0 0) 0 [] := by
  subst hq hs hr
  have hle := hb.le
  simp at hle
  have hz3 := hg.size
  simp at hz3
  have hown := (own_lt ho).out
  have hw2 : Bl w w2 := ((Bl.refl w).alloc _).trans hb
  have hw3 : Bl w w3 := (hw2.alloc _).grown hg fun k hk => by have := (hown k hk).1; omega
  have h0 : w2.heap[w.heap.size]? = some (.cells #[.slice A n c] 28 (0, 0)) := hb.one (one_at w _ _)
  have h1 : (w2.alloc (.cells #[.slice SA n sc] 28)).heap[w.heap.size]? = some (.cells #[.slice A n c] 28 (0, 0)) := ((Bl.refl _).alloc _).one h0
  have h2 : (w2.alloc (.cells #[.slice SA n sc] 28)).heap[w2.heap.size]? = some (.cells #[.slice SA n sc] 28 (0, 0)) := one_at w2 _ _
  have e1 : w3.heap[w.heap.size]? = some (.cells #[.slice A n c] 28 (0, 0)) := by
    rw [hg.block _ (by simp; omega) (fun e => by have := (hown _ e.symm).1; omega)]; exact h1
  have e2 : w3.heap[w2.heap.size]? = some (.cells #[.slice SA n sc] 28 (0, 0)) := by
    rw [hg.block _ (by simp) (fun e => by have := (hown _ e.symm).2; omega)]; exact h2
  have hs : Bl w3 V := by subst hV; exact ((((((Bl.refl w3).alloc _).alloc _).alloc _).alloc _).alloc _)
  refine ⟨by omega, by omega, e1, e2, hw3, hs, ?_, ?_, ?_⟩
  · subst hV
    have := one_at (((w3.alloc (.cells #[] 50)).alloc (.cells #[.slice (some ⟨w3.heap.size, 0, none⟩) 0 0] 28)).alloc (.cells #[.int .i64 (-1)] 3)) (.func (.func 76) #[] #[.pointer (some ⟨w2.heap.size, 0, none⟩), .pointer (some ⟨w3.heap.size + 3, 0, none⟩), .pointer (some ⟨w.heap.size, 0, none⟩), .pointer (some ⟨w3.heap.size + 2, 0, none⟩), .pointer (some ⟨w3.heap.size + 1, 0, none⟩)]) 86
    exact ((Bl.refl _).alloc _).one (by simpa using this)
  · refine ⟨some ⟨w3.heap.size, 0, none⟩, 0, 0, ?_, ?_, ?_, ?_⟩
    · subst hV
      have := one_at (w3.alloc (.cells #[] 50)) (.slice (some ⟨w3.heap.size, 0, none⟩) 0 0) 28
      exact ((((Bl.refl _).alloc _).alloc _).alloc _).one (by simpa using this)
    · subst hV
      have := one_at ((w3.alloc (.cells #[] 50)).alloc (.cells #[.slice (some ⟨w3.heap.size, 0, none⟩) 0 0] 28)) (.int .i64 (-1)) 3
      exact (((Bl.refl _).alloc _).alloc _).one (by simpa using this)
    · subst hV
      exact (((((Bl.refl _).alloc _).alloc _).alloc _).alloc _).own (made_at Cargo.cs 3 w3 50 w3.heap.size _ rfl (Nat.le_refl _))
    · intro g hg; simp [Value.ownBlock] at hg; omega
  · refine RowY.of_own (B' := w3.heap.size + 4) ?_ (by omega) (by omega)
    have := made_at Cargo.cs 3 ((((w3.alloc (.cells #[] 50)).alloc (.cells #[.slice (some ⟨w3.heap.size, 0, none⟩) 0 0] 28)).alloc (.cells #[.int .i64 (-1)] 3)).alloc (.cells #[.func (.func 76) #[] #[.pointer (some ⟨w2.heap.size, 0, none⟩), .pointer (some ⟨w3.heap.size + 3, 0, none⟩), .pointer (some ⟨w.heap.size, 0, none⟩), .pointer (some ⟨w3.heap.size + 2, 0, none⟩), .pointer (some ⟨w3.heap.size + 1, 0, none⟩)]] 86)) 50 (w3.heap.size + 4) _ rfl (by simp)
    subst hV
    simpa using this
set_option maxRecDepth 100000 in
set_option maxHeartbeats 8000000 in
theorem implShortestRow_any (A : Option Addr) (n c : Nat) (l : List Cargo) (w : World) (h : Sl Cargo.cs 3 w A n l) (hnc : n ≤ c) :
    Calls Try.prog 41 #[.slice A n c] w (NewRes ci 1 3 (shortR l).1.1 (fun v => .tuple #[v, .int .i64 (shortR l).1.2, .bool (shortR l).2]) w) := by
  have HL := Lib.hid h.1
  have H1 := Lib.hid (fun W h => isCargoList_any A n c l W h hnc)
  cases h1 : cargoOk l
  · have HR := Lib.hid (show shortR l = (([], 0), false) by rw [shortR, if_neg (by simp [h1])])
    have F00 : ∀ W, Bl (w.alloc (.cells #[.slice A n c] 28)) W → W.cell? ⟨w.heap.size, 0, none⟩ = some (.slice A n c) := Bl.all (by go_simp)
    have hb := Bl.refl (w.alloc (.cells #[.slice A n c] 28))
    have hb0 : Hid (Bl w (w.alloc (.cells #[.slice A n c] 28))) := (Bl.refl w).alloc _
    go_enter Try.func41, Try.ntmps41
    go_wp2_with fail
    refine (H1.out _ (h.bl hb0.out)).mono ?_
    rintro e w1 ⟨rfl, hbn⟩
    have hbw := hb0.out.trans hbn
    simp only [h1]
    go_wp2_with fail
    go_ret3
    rw [HR.out]
    exact NewRes.nil (F := fun v => .tuple #[v, _, _]) hbw
  have h6 := cargo_len h1
  rw [HL.out] at h6
  have HPA := Lib.hid (asc_perm l)
  have HR := Lib.hid (show shortR l = (((contC n [] (ascC l)).1.map (·.Id), (contC n [] (ascC l)).2), true) by rw [shortR, if_pos h1, HL.out])
  have HV : Hid (visC (ascC l) n [] ([], -1) = contC n [] (ascC l)) := by
    have := visC_all h1 (asc_perm l)
    rw [(asc_perm l).length_eq, HL.out] at this
    exact this
  have HB := Lib.hid (contC_perm h1 n [] (ascC l) (asc_perm l) (by rw [(asc_perm l).length_eq, HL.out]))
  have HBL : Hid ((contC n [] (ascC l)).1.length = n) := by show _ = _; rw [HB.out.1.length_eq, HL.out]
  have H2 := Lib.hid (fun B C d W ho => sortAll_any B C n d l W h1 HL.out ho)
  have H3 := Lib.hid (fun SA sc q s r hqr hsr a hq hs ha har B d W => visitC_any A n c SA sc l (ascC l) h1 HL.out (asc_perm l) q s r hqr hsr a hq hs ha har n 0 [] B d ([], -1) W rfl (by rw [rest_nil, (asc_perm l).length_eq, HL.out]) (by rw [rest_nil]; exact asc_perm l))
  rw [HV.out] at H3
  generalize contC n [] (ascC l) = T at *
  obtain ⟨tb, tz⟩ := T
  simp only at HBL
  have F00 : ∀ W, Bl (w.alloc (.cells #[.slice A n c] 28)) W → W.cell? ⟨w.heap.size, 0, none⟩ = some (.slice A n c) := Bl.all (by go_simp)
  have hb := Bl.refl (w.alloc (.cells #[.slice A n c] 28))
  have hb0 : Hid (Bl w (w.alloc (.cells #[.slice A n c] 28))) := (Bl.refl w).alloc _
  go_enter Try.func41, Try.ntmps41
  go_wp2_with fail
  refine (H1.out _ (h.bl hb0.out)).mono ?_
  rintro e w1 ⟨rfl, hbn⟩
  have hbw := hb0.out.trans hbn
  have hbz := hbn.le
  simp at hbz
  simp only [h1]
  have f1 := F00 _ (hbn.alloc (.cells #[] 50))
  obtain ⟨i0, hi0, hz0, hz1, hz2⟩ := info_parts infoCargo
  go_wp2_with (at_builtin; refine wpList_append_new _ rfl _ _ _ rfl 50 i0 _ 3 24 Try.underlying28 hi0 hz0 hz1 hz2 rfl (by omega) Cargo.cs_len Cargo.one _ rfl (by first | rfl | simp) A n c l rfl (h.bl hbw) (by unfold maxLen; omega) (by omega) ?_)
  clear hi0 hz0 hz1 hz2
  intro B d w2 ho hbn2
  have ho := own_mono ho hbz
  have hb2 := Lib.hid (hbn.trans hbn2)
  have HO2 := Lib.hid (((Bl.refl w2).alloc (.cells #[.slice B n d] 28)).own ho)
  have HO1 := Lib.hid ho
  clear ho hbn hbn2 hbw hbz
  go_wp2_with fail
  refine (H2.out _ _ _ _ HO2.out).mono ?_
  rintro e w3 ⟨rfl, hg3, ho3⟩
  obtain ⟨s1, s2, s3, s4, s5, s6, s7, s8, s9⟩ := implShort_start A n c B d _ w w2 w3 hb2.out HO1.out hg3 _ _ _ rfl rfl rfl _ rfl
  have hsl := Sl.of_own Cargo.cs_len ho3 (by rw [HPA.out.length_eq, HL.out]) (by omega)
  have S1 := Lib.hid s1
  have S3 := Lib.hid s3
  have S4 := Lib.hid s4
  have S5 := Lib.hid s5
  have S6 := Lib.hid s6
  have S7 := Lib.hid s7
  have S8 := Lib.hid s8
  have S9 := Lib.hid s9
  have HS3 := Lib.hid hsl
  clear s3 s4 s5 s6 s7 s8 s9 hg3 ho3 hsl
  go_wp2_with fail
  refine (H3.out _ _ _ _ _ s1 s2 w3 S3.out S4.out HS3.out (Nat.le_refl _) _ _ _ S6.out S7.out S8.out S9.out).mono ?_
  rintro e w5 ⟨rfl, hx5, C5, m5, c5, hB5, hZ5, hR5⟩
  have hb5 := S5.out.trans (By.below S6.out hx5 (by omega))
  have hm5 : m5 = n := by have h9 := hR5.1.1; rw [flat_len _ 3 Cargo.cs_len, HBL.out] at h9; omega
  subst hm5
  have HTB := Lib.hid (hR5.sl Cargo.cs_len (by omega) (by omega))
  have g1 := cell_of_one hB5
  have HZ := Lib.hid hZ5
  have hz5 := hx5.size
  have HCL : Hid (∀ b o s, C5 = some ⟨b, o, s⟩ → b < w5.heap.size) := by
    rintro b o s rfl
    rcases own_forms hR5.1 with ⟨h9, _⟩ | ⟨g, h9⟩
    · cases h9
    · injection h9 with h9; injection h9 with h9 h10 h11; subst h9
      exact ((own_lt hR5.1).out b rfl).2
  have HM5 := Lib.hid (((made_at ci 1 w5 3 w5.heap.size _ rfl (Nat.le_refl _))))
  have hbw5 := hb5.alloc (.cells #[] 3)
  have HTB := Lib.hid (HTB.out.bl ((Bl.refl w5).alloc (.cells #[] 3)))
  have g2 : ∀ W, Bl w5 W → W.cell? ⟨w3.heap.size + 2, 0, none⟩ = some (.int .i64 tz) := Bl.all (cell_of_one HZ.out)
  have g3 : ∀ W, Bl w5 W → W.cell? ⟨w3.heap.size + 1, 0, none⟩ = some (.slice C5 m5 c5) := Bl.all g1
  have g4 := g3 _ ((Bl.refl w5).alloc (.cells #[] 3))
  have hbz := hb5.le
  generalize w3.heap.size = r at *
  clear hB5 hZ5 hR5 hx5 S1 S3 S4 S5 S6 S7 S8 S9 HS3 g1 hz5 HZ
  go_wp2_with fail
  go_loopw [9, 28] (fun v i wr => ∃ (k : Nat) (C : Option Addr) (d : Nat), k ≤ m5 ∧ i = .int .i64 k ∧ v = .slice C k d ∧ Bl w5 wr ∧ Hid (wr.ownsRow w5.heap.size 3 1 (.slice C k d) k (((tb.take k).map (·.Id)).flatMap ci)) ∧ Hid (Sl Cargo.cs 3 wr C5 m5 tb)) (fun _ i _ => m5 - (intOf i).toNat)
  case atStart => exact ⟨0, _, 0, Nat.zero_le _, rfl, rfl, (Bl.refl w5).alloc _, HM5.out, HTB.out⟩
  case round =>
    clear HM5 HTB hbw5 g4
    obtain ⟨k, C, d, hk, rfl, rfl, hwk, HOR, HTB⟩ := hrel
    by_cases hlt : k < m5
    · obtain ⟨b2, o2, y, rfl, ey, q1, q2, q3⟩ := HTB.out.Cargo hlt
      have f1 := q1 _ (Bl.refl _)
      have f2 := q2 _ (Bl.refl _)
      have f3 := q3 _ (Bl.refl _)
      have HN := Lib.hid (ids_one ey)
      obtain ⟨xa, xb, xc⟩ := y
      simp only at f1 f2 f3
      have hax := (Bl.refl wr).alloc (.cells #[.int .i64 xa, .int .i64 xb, .int .i64 xc] 50)
      have ho9 := hax.own HOR.out
      have hb9 := (hwk.alloc (.cells #[.int .i64 xa, .int .i64 xb, .int .i64 xc] 50)).le
      have hTB9 := HTB.out.bl hax
      have hlt9 := Lib.hid ((own_lt ho9).out)
      clear q1 q2 q3 ey hax
      obtain ⟨i0, hi0, hz0, hz1, hz2⟩ := info_parts infoInt
      go_wp2_with (at_builtin; refine wpList_append_one _ rfl _ _ _ rfl _ 3 i0 _ 1 8 Try.underlying36 hi0 hz0 hz1 hz2 rfl (by omega) ci_len ci_one _ k ((tb.take k).map (·.Id)) rfl xa _ rfl (by first | rfl | simp) _ rfl ho9 hb9 (by unfold maxLen; omega) (by omega) ?_)
      clear hi0 hz0 hz1 hz2
      intro B6 d6 w6 ho6 hg6
      have HOR6 : Hid (w6.ownsRow w5.heap.size 3 1 (.slice B6 (k + 1) d6) (k + 1) (((tb.take (k + 1)).map (·.Id)).flatMap ci)) := by
        show World.ownsRow _ _ _ _ _ _ _
        rw [HN.out]
        simpa using ho6
      have HTB6 := Lib.hid (hTB9.grown hg6 (fun b o s e e2 => by have h1 := HCL.out b o s e; have h2 := hlt9.out b e2.symm; omega))
      have hb6 := Bl.row (hwk.alloc _) (Nat.le_refl _) ho9 hg6
      clear ho6 hg6 ho9 hb9 hTB9
      go_wp2_with fail
      first | exact ⟨⟨k + 1, B6, d6, by omega, by go_num, rfl, hb6, HOR6, HTB6⟩, by simp [intOf]; omega⟩ | (refine ⟨?_, by simp [intOf]; omega⟩; (repeat apply Exists.intro); exact ⟨⟨k + 1, B6, d6, by omega, by go_num, rfl, hb6, HOR6, HTB6⟩, rfl⟩)
    · have e : k = m5 := by omega
      subst e
      have HEN : Hid ((tb.take k).map (·.Id) = tb.map (·.Id)) := by show _ = _; rw [take_all HBL.out]
      rw [HEN.out] at HOR
      have g5 : ∀ W, Bl wr W → W.cell? ⟨r + 2, 0, none⟩ = some (.int .i64 tz) := fun W hW => g2 W (hwk.trans hW)
      clear g2
      go_wp2_with fail
      refine region_bl (by kernel_rfl) (by kernel_rfl) (Bl.refl wr) ?_
      repeat' (first | go_big_quiet_skip | (go_big_quiet_want; go_simp; (try go_bits); first | (refine ⟨_, fun _ _ => rfl, ?_⟩; go_big_quiet_on) | (apply Exists.intro; refine ⟨fun W hW => ?_, ?_⟩; (· go_simp; (try go_bits); rfl); go_big_quiet_on)))
      apply wpQuiet_nil
      intro W hb
      have HO6 := Lib.hid (own_mono (hb.own HOR.out) hbz)
      have hb6 := (hb5.trans hwk).trans hb
      go_wp2_with fail
      go_ret3
      rw [HR.out]
      exact NewRes.of_own (F := fun v => .tuple #[v, _, _]) HO6.out (by rw [List.length_map]; exact HBL.out) (by omega) hb6
end Go.Proofs.Ytkeaobjcfkmjmaa
