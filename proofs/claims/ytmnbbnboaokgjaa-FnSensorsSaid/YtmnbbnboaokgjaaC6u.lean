/- The contracts of the functions on triples of sensors: the median, who agrees, the level voted for. -/
import Derived.Test.YtmnbbnboaokgjaaC6t
namespace Go.Proofs.Ytmnbbnboaokgjaa
open Go.RowKit
theorem trip_len {l : List Int} (h : tripOk l = true) : l.length = 3 := by
  obtain ⟨a, b, c, rfl, _⟩ := trip_parts h; rfl
theorem trip_med {l : List Int} (h : tripOk l = true) : 0 ≤ medL l ∧ medL l ≤ 2000 := by
  obtain ⟨a, b, c, rfl, ha, hb, hc⟩ := trip_parts h
  exact med_rng ha hb hc
theorem trip_rng {l : List Int} (h : tripOk l = true) : ∀ x ∈ l, 0 ≤ x ∧ x ≤ 2000 := by
  obtain ⟨a, b, c, rfl, ha, hb, hc⟩ := trip_parts h
  intro x hx
  simp at hx
  rcases hx with rfl | rfl | rfl <;> assumption
set_option maxHeartbeats 400000 in
theorem specMedianOf_any (A : Option Addr) (n c : Nat) (l : List Int) (w : World) (h : Sl ci 1 w A n l) :
    Calls Try.prog 40 #[.slice A n c] w fun e w' => e = .returned (.tuple #[.int .i64 (medianR l).1, .bool (medianR l).2]) ∧ Bl w w' := by
  have HL := Lib.hid h.1
  have H1 := Lib.hid (l6Triple_any A n c l w h)
  cases h1 : tripOk l
  · have HR : Hid (medianR l = (0, false)) := by show _ = _; simp [medianR, h1]
    go_enter Try.func40, Try.ntmps40
    go_wp2_with fail
    refine H1.out.mono ?_
    rintro e w1 ⟨rfl, hb⟩
    simp only [h1]
    go_wp2_with fail
    go_ret2
    exact ⟨by rw [HR.out]; rfl, hb⟩
  · have HR : Hid (medianR l = (medL l, true)) := by show _ = _; simp [medianR, h1]
    have e3 : n = 3 := by rw [← trip_len h1]; exact HL.out.symm
    subst e3
    go_enter Try.func40, Try.ntmps40
    go_wp2_with fail
    refine H1.out.mono ?_
    rintro e w1 ⟨rfl, hb⟩
    simp only [h1]
    go_wp2_with fail
    refine (l6Median_any A c l _ (h.bl hb)).mono ?_
    rintro e w2 ⟨rfl, hb2⟩
    have hb := hb.trans hb2
    go_wp2_with fail
    go_ret2
    exact ⟨by rw [HR.out]; rfl, hb⟩
set_option maxHeartbeats 400000 in
theorem implMedianOf_any (A : Option Addr) (n c : Nat) (l : List Int) (w : World) (h : Sl ci 1 w A n l) :
    Calls Try.prog 42 #[.slice A n c] w fun e w' => e = .returned (.tuple #[.int .i64 (medianR l).1, .bool (medianR l).2]) ∧ Bl w w' := by
  have HL := Lib.hid h.1
  have H1 := Lib.hid (isTriple_any A n c l w h)
  cases h1 : tripOk l
  · have HR : Hid (medianR l = (0, false)) := by show _ = _; simp [medianR, h1]
    go_enter Try.func42, Try.ntmps42
    go_wp2_with fail
    refine H1.out.mono ?_
    rintro e w1 ⟨rfl, hb⟩
    simp only [h1]
    go_wp2_with fail
    go_ret2
    exact ⟨by rw [HR.out]; rfl, hb⟩
  · have HR : Hid (medianR l = (medL l, true)) := by show _ = _; simp [medianR, h1]
    have e3 : n = 3 := by rw [← trip_len h1]; exact HL.out.symm
    subst e3
    go_enter Try.func42, Try.ntmps42
    go_wp2_with fail
    refine H1.out.mono ?_
    rintro e w1 ⟨rfl, hb⟩
    simp only [h1]
    go_wp2_with fail
    refine (medianOf_any A c l _ (h.bl hb)).mono ?_
    rintro e w2 ⟨rfl, hb2⟩
    have hb := hb.trans hb2
    go_wp2_with fail
    go_ret2
    exact ⟨by rw [HR.out]; rfl, hb⟩
set_option maxHeartbeats 1000000 in
theorem l6Agreeing_any (A : Option Addr) (c : Nat) (l : List Int) (m : Int) (w : World) (h : Sl ci 1 w A 3 l) (ht : tripOk l = true) :
    Calls Try.prog 94 #[.slice A 3 c, .int .i64 m] w (NewRes ci 1 3 (agreeK l m 3) (fun v => v) w) := by
  have HL := Lib.hid h.1
  have HR := Lib.hid (trip_rng ht)
  have HM := Lib.hid (trip_med ht)
  have H1 := Lib.hid (fun V hV => l6Median_any A c l V (h.bl hV))
  clear ht
  have hb0 : Hid (Bl w w) := Bl.refl w
  have hmade := World.ownsRow_made (e := 3) (size := 1) w #[] 0 (Nat.le_refl _) (Nat.zero_le _) (by simp)
  have hb1 := (Bl.refl w).alloc (.cells #[] 3)
  go_enter Try.func94, Try.ntmps94
  go_wp2_with fail
  go_loopw [5, 6] (fun u i wr => ∃ (k j : Nat) (C : Option Addr) (d : Nat), k ≤ 3 ∧ i = .int .i64 k ∧ u = .slice C j d ∧ j ≤ k ∧ Hid ((agreeK l m k).length = j) ∧ Bl w wr ∧ wr.ownsRow w.heap.size 3 1 (.slice C j d) j ((agreeK l m k).flatMap ci)) (fun _ i _ => 3 - (intOf i).toNat)
  case atStart => exact ⟨0, 0, _, 0, Nat.zero_le _, rfl, rfl, Nat.le_refl _, rfl, hb1, hmade⟩
  case round =>
    clear hb1 hmade hb0
    obtain ⟨k, j, C, d, hk, rfl, rfl, hjk, HJ, hb, ho⟩ := hrel
    by_cases hlt : k < 3
    · obtain ⟨b1, o1, x, rfl, ex, c1⟩ := h.int hlt
      have hx := HR.out x (List.mem_of_getElem? ex)
      have HS := Lib.hid (agreeK_one (m := m) ex)
      have H2 := Lib.hid (fun W => same_bl (l6Far_any x (medL l) W hx HM.out))
      have d1 : ∀ V, Bl wr V → V.cell? ⟨b1, o1 + k, none⟩ = some (.int .i64 x) := fun V hV => c1 V (hb.trans hV)
      clear ex hx c1
      cases h1 : decide (farZ x (medL l) ≤ m)
      · have HN : Hid (agreeK l m (k + 1) = agreeK l m k) := by show _ = _; rw [HS.out, if_neg (by simpa using h1)]
        go_wp2_with fail
        have hb0 := hb
        refine region_bl (by kernel_rfl) (by kernel_rfl) (Bl.refl wr) ?_
        repeat' (first | go_big_quiet_skip | (go_big_quiet_want; go_simp; (try go_bits); first | (refine ⟨_, fun _ _ => rfl, ?_⟩; go_big_quiet_on) | (apply Exists.intro; (with_reducible refine ⟨fun W hW => ret_bl hW (H1.out W (Bl.trans hb0 (by with_reducible assumption))), ?_⟩); go_big_quiet_on) | (apply Exists.intro; (with_reducible refine ⟨fun W hW => ret_bl hW (H2.out W), ?_⟩); go_big_quiet_on) | (apply Exists.intro; refine ⟨fun W hW => ?_, ?_⟩; (· go_simp; (try go_bits); rfl); go_big_quiet_on)))
        apply wpQuiet_nil
        intro W hb
        have ho2 := hb.own ho
        have hb2 := hb0.trans hb
        go_wp2_with fail
        first | exact ⟨⟨k + 1, j, C, d, by omega, by go_num, rfl, by omega, by show _ = _; rw [HN.out]; exact HJ.out, hb2, by rw [HN.out]; exact ho2⟩, by simp [intOf]; omega⟩ | (refine ⟨?_, by simp [intOf]; omega⟩; (repeat apply Exists.intro); exact ⟨⟨k + 1, j, C, d, by omega, by go_num, rfl, by omega, by show _ = _; rw [HN.out]; exact HJ.out, hb2, by rw [HN.out]; exact ho2⟩, rfl⟩)
      · have HN : Hid (agreeK l m (k + 1) = agreeK l m k ++ [(k : Int)]) := by show _ = _; rw [HS.out, if_pos (by simpa using h1)]
        have HJN : Hid ((agreeK l m (k + 1)).length = j + 1) := by show _ = _; rw [HN.out, List.length_append, HJ.out]; rfl
        go_wp2_with fail
        have hb0 := hb
        refine region_bl (by kernel_rfl) (by kernel_rfl) (Bl.refl wr) ?_
        repeat' (first | go_big_quiet_skip | (go_big_quiet_want; go_simp; (try go_bits); first | (refine ⟨_, fun _ _ => rfl, ?_⟩; go_big_quiet_on) | (apply Exists.intro; (with_reducible refine ⟨fun W hW => ret_bl hW (H1.out W (Bl.trans hb0 (by with_reducible assumption))), ?_⟩); go_big_quiet_on) | (apply Exists.intro; (with_reducible refine ⟨fun W hW => ret_bl hW (H2.out W), ?_⟩); go_big_quiet_on) | (apply Exists.intro; refine ⟨fun W hW => ?_, ?_⟩; (· go_simp; (try go_bits); rfl); go_big_quiet_on)))
        apply wpQuiet_nil
        intro W hb
        have ho2 := hb.own ho
        have hb2 := hb0.trans hb
        obtain ⟨i0, hi0, hz0, hz1, hz2⟩ := info_parts infoInt
        go_wp2_with (at_builtin; refine wpList_append_one _ rfl _ _ _ rfl _ 3 i0 _ 1 8 Try.underlying33 hi0 hz0 hz1 hz2 rfl (by omega) ci_len ci_one _ j (agreeK l m k) rfl (k : Int) _ rfl (by first | rfl | simp) _ rfl ho2 hb2.le (by unfold maxLen; omega) (by omega) ?_)
        clear hi0 hz0 hz1 hz2
        intro C5 d5 w5 ho5 hg5
        have hb5 := Bl.row hb2 (Nat.le_refl _) ho2 hg5
        go_wp2_with fail
        first | exact ⟨⟨k + 1, j + 1, C5, d5, by omega, by go_num, rfl, by omega, HJN, hb5, by rw [HN.out, List.flatMap_append]; exact ho5⟩, by simp [intOf]; omega⟩ | (refine ⟨?_, by simp [intOf]; omega⟩; (repeat apply Exists.intro); exact ⟨⟨k + 1, j + 1, C5, d5, by omega, by go_num, rfl, by omega, HJN, hb5, by rw [HN.out, List.flatMap_append]; exact ho5⟩, rfl⟩)
    · have e : k = 3 := by omega
      subst e
      go_wp2_with fail
      go_ret
      exact NewRes.of_own (F := fun v => v) ho HJ.out (by omega) hb
end Go.Proofs.Ytmnbbnboaokgjaa
