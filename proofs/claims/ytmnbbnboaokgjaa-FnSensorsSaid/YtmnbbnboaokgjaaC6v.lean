/- The contracts of the functions on triples of sensors: who agrees, the level voted for. -/
import Derived.Test.YtmnbbnboaokgjaaC6u
namespace Go.Proofs.Ytmnbbnboaokgjaa
open Go.RowKit
set_option maxHeartbeats 1000000 in
theorem agreeing_any (A : Option Addr) (c : Nat) (l : List Int) (m : Int) (w : World) (h : Sl ci 1 w A 3 l) (ht : tripOk l = true) :
    Calls Try.prog 95 #[.slice A 3 c, .int .i64 m] w (NewRes ci 1 3 (agreeK l m 3) (fun v => v) w) := by
  have HL := Lib.hid h.1
  have HR := Lib.hid (trip_rng ht)
  have HM := Lib.hid (trip_med ht)
  have H1 := Lib.hid (fun V hV => medianOf_any A c l V (h.bl hV))
  clear ht
  have hmade := World.ownsRow_made (e := 3) (size := 1) w #[] 0 (Nat.le_refl _) (Nat.zero_le _) (by simp)
  have hb1 := (Bl.refl w).alloc (.cells #[] 3)
  go_enter Try.func95, Try.ntmps95
  go_wp2_with fail
  go_loopw [5, 11] (fun u i wr => ∃ (k j : Nat) (C : Option Addr) (d : Nat), k ≤ 3 ∧ i = .int .i64 k ∧ u = .slice C j d ∧ j ≤ k ∧ Hid ((agreeK l m k).length = j) ∧ Bl w wr ∧ wr.ownsRow w.heap.size 3 1 (.slice C j d) j ((agreeK l m k).flatMap ci)) (fun _ i _ => 3 - (intOf i).toNat)
  case atStart => exact ⟨0, 0, _, 0, Nat.zero_le _, rfl, rfl, Nat.le_refl _, rfl, hb1, hmade⟩
  case round =>
    clear hb1 hmade
    obtain ⟨k, j, C, d, hk, rfl, rfl, hjk, HJ, hb, ho⟩ := hrel
    by_cases hlt : k < 3
    · obtain ⟨b1, o1, x, rfl, ex, c1⟩ := h.int hlt
      have hx := HR.out x (List.mem_of_getElem? ex)
      have HS := Lib.hid (agreeK_one (m := m) ex)
      have hmm := HM.out
      have H2 := Lib.hid (fun W => absOfI_any (x - medL l) W (by omega))
      have HF : Hid (max (x - medL l) (-(x - medL l)) = farZ x (medL l)) := by show _ = _; unfold farZ; omega
      have q1 := c1 _ hb
      clear ex c1
      obtain ⟨hx0, hx1⟩ := hx
      obtain ⟨hm0, hm1⟩ := hmm
      go_wp2_with fail
      refine (H1.out _ hb).mono ?_
      rintro e w2 ⟨rfl, hb2⟩
      have ho2 := hb2.own ho
      have hb3 := hb.trans hb2
      generalize medL l = md at *
      rw [HF.out] at H2
      go_wp2_with fail
      refine (H2.out _).mono ?_
      rintro e w2 ⟨rfl, rfl⟩
      cases h1 : decide (farZ x md ≤ m)
      · have HN : Hid (agreeK l m (k + 1) = agreeK l m k) := by show _ = _; rw [HS.out, if_neg (by simpa using h1)]
        go_wp2_with fail
        first | exact ⟨⟨k + 1, j, C, d, by omega, by go_num, rfl, by omega, by show _ = _; rw [HN.out]; exact HJ.out, hb3, by rw [HN.out]; exact ho2⟩, by simp [intOf]; omega⟩ | (refine ⟨?_, by simp [intOf]; omega⟩; (repeat apply Exists.intro); exact ⟨⟨k + 1, j, C, d, by omega, by go_num, rfl, by omega, by show _ = _; rw [HN.out]; exact HJ.out, hb3, by rw [HN.out]; exact ho2⟩, rfl⟩)
      · have HN : Hid (agreeK l m (k + 1) = agreeK l m k ++ [(k : Int)]) := by show _ = _; rw [HS.out, if_pos (by simpa using h1)]
        have HJN : Hid ((agreeK l m (k + 1)).length = j + 1) := by show _ = _; rw [HN.out, List.length_append, HJ.out]; rfl
        obtain ⟨i0, hi0, hz0, hz1, hz2⟩ := info_parts infoInt
        go_wp2_with (at_builtin; refine wpList_append_one _ rfl _ _ _ rfl _ 3 i0 _ 1 8 Try.underlying33 hi0 hz0 hz1 hz2 rfl (by omega) ci_len ci_one _ j (agreeK l m k) rfl (k : Int) _ rfl (by first | rfl | simp) _ rfl ho2 hb3.le (by unfold maxLen; omega) (by omega) ?_)
        clear hi0 hz0 hz1 hz2
        intro C5 d5 w5 ho5 hg5
        have hb5 := Bl.row hb3 (Nat.le_refl _) ho2 hg5
        go_wp2_with fail
        first | exact ⟨⟨k + 1, j + 1, C5, d5, by omega, by go_num, rfl, by omega, HJN, hb5, by rw [HN.out, List.flatMap_append]; exact ho5⟩, by simp [intOf]; omega⟩ | (refine ⟨?_, by simp [intOf]; omega⟩; (repeat apply Exists.intro); exact ⟨⟨k + 1, j + 1, C5, d5, by omega, by go_num, rfl, by omega, HJN, hb5, by rw [HN.out, List.flatMap_append]; exact ho5⟩, rfl⟩)
    · have e : k = 3 := by omega
      subst e
      go_wp2_with fail
      go_ret
      exact NewRes.of_own (F := fun v => v) ho HJ.out (by omega) hb
theorem agree_no {l : List Int} {m : Int} (h : tripOk l = false ∨ inB m 0 2000 = false) : agreeR l m = ([], false) := by
  unfold agreeR
  rw [if_neg]
  rintro ⟨h1, h2⟩
  rcases h with h | h
  · rw [h] at h1; cases h1
  · have : gauge m = inB m 0 2000 := rfl
    rw [this, h] at h2; cases h2
set_option maxHeartbeats 1000000 in
theorem specAgreeing_any (A : Option Addr) (n c : Nat) (l : List Int) (m : Int) (w : World) (h : Sl ci 1 w A n l) :
    Calls Try.prog 44 #[.slice A n c, .int .i64 m] w (NewRes ci 1 3 (agreeR l m).1 (fun v => .tuple #[v, .bool (agreeR l m).2]) w) := by
  have HL := Lib.hid h.1
  have H1 := Lib.hid (l6Triple_any A n c l w h)
  cases h1 : tripOk l
  · have HR := Lib.hid (agree_no (m := m) (.inl h1))
    go_enter Try.func44, Try.ntmps44
    go_wp2_with fail
    refine H1.out.mono ?_
    rintro e w1 ⟨rfl, hb⟩
    simp only [h1]
    go_wp2_with fail
    go_ret2
    rw [HR.out]
    exact NewRes.empty (F := fun v => .tuple #[v, .bool false]) hb
  have H2 := Lib.hid (fun W => l6Level_any m W)
  cases h2 : inB m 0 2000
  · have HR := Lib.hid (agree_no (l := l) (.inr h2))
    go_enter Try.func44, Try.ntmps44
    go_wp2_with fail
    refine H1.out.mono ?_
    rintro e w1 ⟨rfl, hb⟩
    simp only [h1]
    go_wp2_with fail
    refine (H2.out _).mono ?_
    rintro e w1 ⟨rfl, rfl⟩
    simp only [h2]
    go_wp2_with fail
    go_ret2
    rw [HR.out]
    exact NewRes.empty (F := fun v => .tuple #[v, .bool false]) hb
  · have HR : Hid (agreeR l m = (agreeK l m 3, true)) := by show _ = _; exact if_pos ⟨h1, h2⟩
    have e3 : n = 3 := by rw [← trip_len h1]; exact HL.out.symm
    subst e3
    have HT := Lib.hid h1
    go_enter Try.func44, Try.ntmps44
    go_wp2_with fail
    refine H1.out.mono ?_
    rintro e w1 ⟨rfl, hb⟩
    simp only [h1]
    go_wp2_with fail
    refine (H2.out _).mono ?_
    rintro e w1 ⟨rfl, rfl⟩
    simp only [h2]
    go_wp2_with fail
    refine (l6Agreeing_any A c l m _ (h.bl hb) HT.out).mono ?_
    rintro e w2 ⟨B, k, d, rfl, ho, hk, hk2, hb2⟩
    go_wp2_with fail
    go_ret2
    rw [HR.out]
    exact NewRes.of_own (F := fun v => .tuple #[v, .bool true]) (own_mono ho hb.le) hk hk2 (hb.trans hb2)
set_option maxHeartbeats 1000000 in
theorem implAgreeing_any (A : Option Addr) (n c : Nat) (l : List Int) (m : Int) (w : World) (h : Sl ci 1 w A n l) :
    Calls Try.prog 45 #[.slice A n c, .int .i64 m] w (NewRes ci 1 3 (agreeR l m).1 (fun v => .tuple #[v, .bool (agreeR l m).2]) w) := by
  have HL := Lib.hid h.1
  have H1 := Lib.hid (isTriple_any A n c l w h)
  cases h1 : tripOk l
  · have HR := Lib.hid (agree_no (m := m) (.inl h1))
    go_enter Try.func45, Try.ntmps45
    go_wp2_with fail
    refine H1.out.mono ?_
    rintro e w1 ⟨rfl, hb⟩
    simp only [h1]
    go_wp2_with fail
    go_ret2
    rw [HR.out]
    exact NewRes.nil (F := fun v => .tuple #[v, .bool false]) hb
  have H2 := Lib.hid (fun W => isGauge_any m W)
  cases h2 : inB m 0 2000
  · have HR := Lib.hid (agree_no (l := l) (.inr h2))
    go_enter Try.func45, Try.ntmps45
    go_wp2_with fail
    refine H1.out.mono ?_
    rintro e w1 ⟨rfl, hb⟩
    simp only [h1]
    go_wp2_with fail
    refine (H2.out _).mono ?_
    rintro e w1 ⟨rfl, rfl⟩
    simp only [h2]
    go_wp2_with fail
    go_ret2
    rw [HR.out]
    exact NewRes.nil (F := fun v => .tuple #[v, .bool false]) hb
  · have HR : Hid (agreeR l m = (agreeK l m 3, true)) := by show _ = _; exact if_pos ⟨h1, h2⟩
    have e3 : n = 3 := by rw [← trip_len h1]; exact HL.out.symm
    subst e3
    have HT := Lib.hid h1
    go_enter Try.func45, Try.ntmps45
    go_wp2_with fail
    refine H1.out.mono ?_
    rintro e w1 ⟨rfl, hb⟩
    simp only [h1]
    go_wp2_with fail
    refine (H2.out _).mono ?_
    rintro e w1 ⟨rfl, rfl⟩
    simp only [h2]
    go_wp2_with fail
    refine (agreeing_any A c l m _ (h.bl hb) HT.out).mono ?_
    rintro e w2 ⟨B, k, d, rfl, ho, hk, hk2, hb2⟩
    go_wp2_with fail
    go_ret2
    rw [HR.out]
    exact NewRes.of_own (F := fun v => .tuple #[v, .bool true]) (own_mono ho hb.le) hk hk2 (hb.trans hb2)
end Go.Proofs.Ytmnbbnboaokgjaa
