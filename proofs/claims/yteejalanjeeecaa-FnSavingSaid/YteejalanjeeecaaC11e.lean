/- The contracts of the flows of an order, in both programs. -/
import Derived.Test.YteejalanjeeecaaC11d
namespace Go.Proofs.Yteejalanjeeecaa
open Go.RowKit
set_option maxHeartbeats 1000000 in
theorem l11Order_any (A : Option Addr) (n c : Nat) (l : List Pool) (B : Option Addr) (m d : Nat) (o : List Int) (w : World) (h : Sl Pool.cs 3 w A n l) (ho : Sl ci 1 w B m o) (hc : m ≤ d) :
    Calls Try.prog 82 #[.slice A n c, .slice B m d] w fun e w' => e = .returned (.bool (orderOk n o)) ∧ Bl w w' := by
  have bn := h.le
  have bm := ho.le
  have HM := Lib.hid ho.1
  go_enter Try.func82, Try.ntmps82
  go_wp2
  go_loopw [5] (fun i wr => ∃ k : Nat, k ≤ m ∧ i = .int .i64 k ∧ Bl w wr ∧ Hid (upTo (ordAt n o) o k = true)) (fun i _ => m - (intOf i).toNat)
  case atStart => exact ⟨0, Nat.zero_le _, rfl, Bl.refl _, rfl⟩
  case round =>
    obtain ⟨k, hk, rfl, hb, he⟩ := hrel
    by_cases hlt : k < m
    · obtain ⟨b1, o1, x, rfl, e1, c1⟩ := ho.int hlt
      have q1 := c1 _ hb
      have hkd : k ≤ d := by omega
      have E1 := Lib.hid e1; clear e1
      have H2 := Lib.hid (fun w => same_bl (l1In_any x 1 ((n : Int) - 1) w))
      have H3 := Lib.hid (fun W hW => l1Has_any (some ⟨b1, o1, none⟩) k d (o.take k) x W ((ho.bl hW).take_ (by omega)))
      cases h2 : inB x 1 ((n : Int) - 1)
      · have HF := Lib.hid (show orderOk n o = false from upTo_not E1.out (by rw [ordAt, h2]; rfl))
        go_wp2_with fail
        refine region_bl (by kernel_rfl) (by kernel_rfl) hb ?_
        repeat' (first | go_big_quiet_skip | (go_big_quiet_want; go_simp; (try go_bits); first | (refine ⟨_, fun _ _ => rfl, ?_⟩; go_big_quiet_on) | (apply Exists.intro; (with_reducible refine ⟨fun W hW => ret_bl hW (H2.out W), ?_⟩); go_big_quiet_on) | (apply Exists.intro; (with_reducible refine ⟨fun W hW => ret_bl hW (H3.out W (by with_reducible assumption)), ?_⟩); go_big_quiet_on) | (apply Exists.intro; refine ⟨fun W hW => ?_, ?_⟩; (· go_simp; (try go_bits); rfl); go_big_quiet_on)))
        apply wpQuiet_nil
        intro W hb
        go_wp2_with fail
        go_ret
        exact ⟨by rw [HF.out]; rfl, hb⟩
      cases h3 : hasB (o.take k) x
      · go_wp2_with fail
        refine region_bl (by kernel_rfl) (by kernel_rfl) hb ?_
        repeat' (first | go_big_quiet_skip | (go_big_quiet_want; go_simp; (try go_bits); first | (refine ⟨_, fun _ _ => rfl, ?_⟩; go_big_quiet_on) | (apply Exists.intro; (with_reducible refine ⟨fun W hW => ret_bl hW (H2.out W), ?_⟩); go_big_quiet_on) | (apply Exists.intro; (with_reducible refine ⟨fun W hW => ret_bl hW (H3.out W (by with_reducible assumption)), ?_⟩); go_big_quiet_on) | (apply Exists.intro; refine ⟨fun W hW => ?_, ?_⟩; (· go_simp; (try go_bits); rfl); go_big_quiet_on)))
        apply wpQuiet_nil
        intro W hb
        go_wp2_with fail
        first | exact ⟨⟨k + 1, by omega, by go_num, hb, by show _ = _; rw [upTo_one E1.out, he.out, ordAt, h2, h3]; rfl⟩, by simp [intOf]; omega⟩ | (refine ⟨?_, by simp [intOf]; omega⟩; (repeat apply Exists.intro); exact ⟨⟨k + 1, by omega, by go_num, hb, by show _ = _; rw [upTo_one E1.out, he.out, ordAt, h2, h3]; rfl⟩, rfl⟩)
      · have HF := Lib.hid (show orderOk n o = false from upTo_not E1.out (by rw [ordAt, h2, h3]; rfl))
        go_wp2_with fail
        refine region_bl (by kernel_rfl) (by kernel_rfl) hb ?_
        repeat' (first | go_big_quiet_skip | (go_big_quiet_want; go_simp; (try go_bits); first | (refine ⟨_, fun _ _ => rfl, ?_⟩; go_big_quiet_on) | (apply Exists.intro; (with_reducible refine ⟨fun W hW => ret_bl hW (H2.out W), ?_⟩); go_big_quiet_on) | (apply Exists.intro; (with_reducible refine ⟨fun W hW => ret_bl hW (H3.out W (by with_reducible assumption)), ?_⟩); go_big_quiet_on) | (apply Exists.intro; refine ⟨fun W hW => ?_, ?_⟩; (· go_simp; (try go_bits); rfl); go_big_quiet_on)))
        apply wpQuiet_nil
        intro W hb
        go_wp2_with fail
        go_ret
        exact ⟨by rw [HF.out]; rfl, hb⟩
    · have e : k = m := by omega
      subst e
      have HF : Hid (orderOk n o = true) := by
        show _ = _
        have := he.out
        rwa [← HM.out] at this
      go_wp2
      go_ret
      exact ⟨by rw [HF.out]; rfl, hb⟩
set_option maxHeartbeats 1000000 in
theorem isPoolOrder_any (A : Option Addr) (n c : Nat) (l : List Pool) (B : Option Addr) (m d : Nat) (o : List Int) (w : World) (h : Sl Pool.cs 3 w A n l) (ho : Sl ci 1 w B m o) (hc : m ≤ d) :
    Calls Try.prog 86 #[.slice A n c, .slice B m d] w fun e w' => e = .returned (.bool (orderOk n o)) ∧ Bl w w' := by
  have bn := h.le
  have bm := ho.le
  have HM := Lib.hid ho.1
  go_enter Try.func86, Try.ntmps86
  go_wp2
  go_loopw [9] (fun i wr => ∃ k : Nat, k ≤ m ∧ i = .int .i64 k ∧ Bl w wr ∧ Hid (upTo (ordAt n o) o k = true)) (fun i _ => m - (intOf i).toNat)
  case atStart => exact ⟨0, Nat.zero_le _, rfl, Bl.refl _, rfl⟩
  case round =>
    obtain ⟨k, hk, rfl, hb, he⟩ := hrel
    by_cases hlt : k < m
    · obtain ⟨b1, o1, x, rfl, e1, c1⟩ := ho.int hlt
      have q1 := c1 _ hb
      have hkd : k ≤ d := by omega
      have E1 := Lib.hid e1; clear e1
      have H2 := Lib.hid (fun w => same_bl (inside_any x 1 ((n : Int) - 1) w))
      have H3 := Lib.hid (fun W hW => contains_any (some ⟨b1, o1, none⟩) k d (o.take k) x W ((ho.bl hW).take_ (by omega)))
      cases h2 : inB x 1 ((n : Int) - 1)
      · have HF := Lib.hid (show orderOk n o = false from upTo_not E1.out (by rw [ordAt, h2]; rfl))
        go_wp2_with fail
        refine (H2.out _).mono ?_
        rintro e w' ⟨rfl, hbn⟩
        have hb := hb.trans hbn
        clear hbn
        simp only [h2]
        go_wp2_with fail
        go_ret
        exact ⟨by rw [HF.out]; rfl, hb⟩
      cases h3 : hasB (o.take k) x
      · go_wp2_with fail
        refine (H2.out _).mono ?_
        rintro e w' ⟨rfl, hbn⟩
        have hb := hb.trans hbn
        clear hbn
        simp only [h2]
        go_wp2_with fail
        refine (H3.out _ hb).mono ?_
        rintro e w' ⟨rfl, hbn⟩
        have hb := hb.trans hbn
        clear hbn
        simp only [h3]
        go_wp2_with fail
        first | exact ⟨⟨k + 1, by omega, by go_num, hb, by show _ = _; rw [upTo_one E1.out, he.out, ordAt, h2, h3]; rfl⟩, by simp [intOf]; omega⟩ | (refine ⟨?_, by simp [intOf]; omega⟩; (repeat apply Exists.intro); exact ⟨⟨k + 1, by omega, by go_num, hb, by show _ = _; rw [upTo_one E1.out, he.out, ordAt, h2, h3]; rfl⟩, rfl⟩)
      · have HF := Lib.hid (show orderOk n o = false from upTo_not E1.out (by rw [ordAt, h2, h3]; rfl))
        go_wp2_with fail
        refine (H2.out _).mono ?_
        rintro e w' ⟨rfl, hbn⟩
        have hb := hb.trans hbn
        clear hbn
        simp only [h2]
        go_wp2_with fail
        refine (H3.out _ hb).mono ?_
        rintro e w' ⟨rfl, hbn⟩
        have hb := hb.trans hbn
        clear hbn
        simp only [h3]
        go_wp2_with fail
        go_ret
        exact ⟨by rw [HF.out]; rfl, hb⟩
    · have e : k = m := by omega
      subst e
      have HF : Hid (orderOk n o = true) := by
        show _ = _
        have := he.out
        rwa [← HM.out] at this
      go_wp2
      go_ret
      exact ⟨by rw [HF.out]; rfl, hb⟩
set_option maxHeartbeats 2000000 in
theorem l11Run_any (A : Option Addr) (n c : Nat) (l : List Pool) (B : Option Addr) (m d : Nat) (o : List Int) (dr : Bool) (w : World) (h : Sl Pool.cs 3 w A n l) (ho : Sl ci 1 w B m o) (hn : n ≤ 1048576) (hm : m ≤ 1048576) (hc : m ≤ d) :
    Calls Try.prog 68 #[.slice A n c, .slice B m d, .bool dr] w (NewRes Pool.cs 3 25 (flowAllR dr l o).1 (fun v => .tuple #[v, .int .i64 (flowAllR dr l o).2.1, .bool (flowAllR dr l o).2.2]) w) := by
  have bn := h.le
  have bm := ho.le
  have HL := Lib.hid h.1
  have HM := Lib.hid ho.1
  have H1 := Lib.hid (fun w h => l11List_any A n c l w h)
  have H2 := Lib.hid (fun w h ho => l11Order_any A n c l B m d o w h ho hc)
  go_enter Try.func68, Try.ntmps68
  obtain ⟨i0, hi0, hz0, hz1, hz2⟩ := info_parts infoPool
  go_wp2_with (at_builtin; refine wpList_append_new _ rfl _ _ _ rfl 25 i0 _ 3 24 Try.underlying36 hi0 hz0 hz1 hz2 rfl (by omega) Pool.cs_len Pool.one _ rfl (by first | rfl | simp) A n c l rfl (h) (by unfold maxLen; omega) (by omega) ?_)
  clear hi0 hz0 hz1 hz2
  intro B1 d1 w1 ho1 hb
  go_wp2_with fail
  refine (H1.out _ (h.bl hb)).mono ?_
  rintro e w2 ⟨rfl, hbn⟩
  have hb := hb.trans hbn
  have ho2 := hbn.own ho1
  clear hbn ho1
  cases h1 : poolsOk l
  · have HR := Lib.hid (flowAll_no (drain := dr) (o := o) (show runOk l o = false by rw [runOk, h1]; rfl))
    simp only [h1]
    go_wp2_with fail
    go_ret3
    rw [HR.out]
    exact NewRes.empty hb
  simp only [h1]
  go_wp2_with fail
  refine (H2.out _ (h.bl hb) (ho.bl hb)).mono ?_
  rintro e w3 ⟨rfl, hbn⟩
  have hb := hb.trans hbn
  have ho3 := hbn.own ho2
  clear hbn
  have HV : Hid (runOk l o = orderOk n o) := by show _ = _; rw [runOk, h1, HL.out]; rfl
  cases h2 : orderOk n o
  · have HR := Lib.hid (flowAll_no (drain := dr) (HV.out.trans h2))
    simp only [h2]
    go_wp2_with fail
    go_ret3
    rw [HR.out]
    exact NewRes.empty hb
  have HV := Lib.hid (HV.out.trans h2)
  have HO := Lib.hid (show orderOk l.length o = true by rw [HL.out]; exact h2)
  have hl5 := len_ok h1
  rw [HL.out] at hl5
  simp only [h2]
  go_wp2_with fail
  go_loopw [9, 10, 11] (fun u v i wr => ∃ (k : Nat) (C : Option Addr) (c2 : Nat) (r : List Pool) (s : Int), k ≤ m ∧ i = .int .i64 k ∧ u = .slice C n c2 ∧ v = .int .i64 s ∧ Bl w wr ∧ wr.ownsRow w.heap.size 25 3 (.slice C n c2) n (r.flatMap Pool.cs) ∧ Hid (runAll dr l (o.take k) = some (r, s)) ∧ Hid (Ran l k r s)) (fun _ _ i _ => m - (intOf i).toNat)
  case atStart => exact ⟨0, B1, d1, l, 0, Nat.zero_le _, rfl, rfl, rfl, hb, ho3, rfl, ran_zero h1⟩
  case round =>
    clear hb ho3 ho2
    obtain ⟨k, C, c2, r, s, hk, rfl, rfl, rfl, hb, hor, hrun, hran⟩ := hrel
    have HLr := Lib.hid (hran.out.len.trans HL.out)
    have b0 := hran.out.lo
    have b1 := hran.out.hi
    by_cases hlt : k < m
    · obtain ⟨p1, o1, x, rfl, e1, c1⟩ := ho.int hlt
      have q1 := c1 _ hb
      have HA := Lib.hid (upTo_at HO.out (by rw [HM.out]; exact hlt) e1)
      have E1 := Lib.hid e1
      have HS := Lib.hid (runAll_one (drain := dr) (l := l) e1)
      clear e1
      obtain ⟨g0, g1, g2, g3⟩ := ord_bd HA.out
      rw [HL.out] at g1 g2
      obtain ⟨j, rfl⟩ := Int.eq_ofNat_of_zero_le (a := x) (by omega)
      have hj : j < n := by omega
      have hj0 : 0 < j := by omega
      have h0 : 0 < n := by omega
      have hsr := Sl.of_own Pool.cs_len hor HLr.out (by omega)
      obtain ⟨w0', w0''⟩ := letV_bd hran.out.ok (i := 0) (j := j) (by rw [HLr.out]; exact h0) (by rw [HLr.out]; exact hj)
      obtain ⟨w1', w1''⟩ := letV_bd hran.out.ok (i := j) (j := 0) (by rw [HLr.out]; exact hj) (by rw [HLr.out]; exact h0)
      have hokr := hran.out.ok
      cases dr
      · have H4 : Hid (Calls Try.prog 66 #[.slice C n c2, .int .i64 j, .int .i64 0] wr (NewRes Pool.cs 3 25 (letL r j 0) (fun v => .tuple #[v, .int .i64 (letV r j 0), .bool (letOk r j 0)]) wr)) := l11Let_any C n c2 r j 0 wr hsr (by omega) (by omega) (by omega) hokr
        go_wp2_with fail
        refine H4.out.mono ?_
        rintro e w4 ⟨C4, m4, c4, rfl, ho4, hl4, hm4, hbn⟩
        have hm4' : m4 = n := by rw [← hl4, letL_len, HLr.out]
        subst hm4'
        cases h5 : letOk r j 0
        · have HR := Lib.hid (flowAll_none (HS.out.trans (by rw [hrun.out]; exact step_no (drain := false) h5)))
          simp only [h5]
          go_wp2_with fail
          go_ret3
          rw [HR.out]
          exact NewRes.empty (hb.trans hbn)
        · have HN := Lib.hid (ran_step hran.out (i := j) (j := 0) (by have := HLr.out; omega) (by have := HLr.out; omega) h5)
          have HT := Lib.hid (show runAll false l (o.take (k + 1)) = some (letL r j 0, s + letV r j 0) by rw [HS.out, hrun.out]; exact step_ok (drain := false) h5)
          simp only [h5]
          go_wp2_with fail
          first | exact ⟨⟨k + 1, C4, c4, letL r j 0, s + letV r j 0, by omega, by go_num, rfl, rfl, hb.trans hbn, own_mono ho4 hb.le, HT, HN⟩, by simp [intOf]; omega⟩ | (refine ⟨?_, by simp [intOf]; omega⟩; (repeat apply Exists.intro); exact ⟨⟨k + 1, C4, c4, letL r j 0, s + letV r j 0, by omega, by go_num, rfl, rfl, hb.trans hbn, own_mono ho4 hb.le, HT, HN⟩, rfl⟩)
      · have H4 : Hid (Calls Try.prog 66 #[.slice C n c2, .int .i64 0, .int .i64 j] wr (NewRes Pool.cs 3 25 (letL r 0 j) (fun v => .tuple #[v, .int .i64 (letV r 0 j), .bool (letOk r 0 j)]) wr)) := l11Let_any C n c2 r 0 j wr hsr (by omega) (by omega) (by omega) hokr
        go_wp2_with fail
        refine H4.out.mono ?_
        rintro e w4 ⟨C4, m4, c4, rfl, ho4, hl4, hm4, hbn⟩
        have hm4' : m4 = n := by rw [← hl4, letL_len, HLr.out]
        subst hm4'
        cases h5 : letOk r 0 j
        · have HR := Lib.hid (flowAll_none (HS.out.trans (by rw [hrun.out]; exact step_no (drain := true) h5)))
          simp only [h5]
          go_wp2_with fail
          go_ret3
          rw [HR.out]
          exact NewRes.empty (hb.trans hbn)
        · have HN := Lib.hid (ran_step hran.out (i := 0) (j := j) (by have := HLr.out; omega) (by have := HLr.out; omega) h5)
          have HT := Lib.hid (show runAll true l (o.take (k + 1)) = some (letL r 0 j, s + letV r 0 j) by rw [HS.out, hrun.out]; exact step_ok (drain := true) h5)
          simp only [h5]
          go_wp2_with fail
          first | exact ⟨⟨k + 1, C4, c4, letL r 0 j, s + letV r 0 j, by omega, by go_num, rfl, rfl, hb.trans hbn, own_mono ho4 hb.le, HT, HN⟩, by simp [intOf]; omega⟩ | (refine ⟨?_, by simp [intOf]; omega⟩; (repeat apply Exists.intro); exact ⟨⟨k + 1, C4, c4, letL r 0 j, s + letV r 0 j, by omega, by go_num, rfl, rfl, hb.trans hbn, own_mono ho4 hb.le, HT, HN⟩, rfl⟩)
    · have e : k = m := by omega
      subst e
      have HR := Lib.hid (flowAll_some HV.out (by rw [← hrun.out, take_all HM.out]))
      go_wp2_with fail
      go_ret3
      rw [HR.out]
      exact NewRes.own hor (Bl.refl w) HLr.out hn hb
set_option maxHeartbeats 2000000 in
theorem flowAll_any (A : Option Addr) (n c : Nat) (l : List Pool) (B : Option Addr) (m d : Nat) (o : List Int) (dr : Bool) (w : World) (h : Sl Pool.cs 3 w A n l) (ho : Sl ci 1 w B m o) (hn : n ≤ 1048576) (hm : m ≤ 1048576) (hc : m ≤ d) :
    Calls Try.prog 73 #[.slice A n c, .slice B m d, .bool dr] w (NewRes Pool.cs 3 25 (flowAllR dr l o).1 (fun v => .tuple #[v, .int .i64 (flowAllR dr l o).2.1, .bool (flowAllR dr l o).2.2]) w) := by
  have bn := h.le
  have bm := ho.le
  have HL := Lib.hid h.1
  have HM := Lib.hid ho.1
  have H1 := Lib.hid (fun w h => arePools_any A n c l w h)
  have H2 := Lib.hid (fun w h ho => isPoolOrder_any A n c l B m d o w h ho hc)
  go_enter Try.func73, Try.ntmps73
  go_wp2_with fail
  refine (H1.out _ h).mono ?_
  rintro e w2 ⟨rfl, hb⟩
  cases h1 : poolsOk l
  · have HR := Lib.hid (flowAll_no (drain := dr) (o := o) (show runOk l o = false by rw [runOk, h1]; rfl))
    simp only [h1]
    go_wp2_with fail
    go_ret3
    rw [HR.out]
    exact NewRes.nil hb
  simp only [h1]
  go_wp2_with fail
  refine (H2.out _ (h.bl hb) (ho.bl hb)).mono ?_
  rintro e w3 ⟨rfl, hbn⟩
  have hb := hb.trans hbn
  clear hbn
  have HV : Hid (runOk l o = orderOk n o) := by show _ = _; rw [runOk, h1, HL.out]; rfl
  cases h2 : orderOk n o
  · have HR := Lib.hid (flowAll_no (drain := dr) (HV.out.trans h2))
    simp only [h2]
    go_wp2_with fail
    go_ret3
    rw [HR.out]
    exact NewRes.nil hb
  have HV := Lib.hid (HV.out.trans h2)
  have HO := Lib.hid (show orderOk l.length o = true by rw [HL.out]; exact h2)
  have hl5 := len_ok h1
  rw [HL.out] at hl5
  simp only [h2]
  obtain ⟨i0, hi0, hz0, hz1, hz2⟩ := info_parts infoPool
  go_wp2_with (at_builtin; refine wpList_append_new _ rfl _ _ _ rfl 25 i0 _ 3 24 Try.underlying36 hi0 hz0 hz1 hz2 rfl (by omega) Pool.cs_len Pool.one _ rfl (by first | rfl | simp) A n c l rfl (h.bl hb) (by unfold maxLen; omega) (by omega) ?_)
  clear hi0 hz0 hz1 hz2
  intro B1 d1 w4 ho1 hbn
  rcases own_forms ho1 with ⟨rfl, h0, _, _⟩ | ⟨g, rfl⟩
  · omega
  have ho2 := own_mono ho1 hb.le
  have hb := hb.trans hbn
  clear hbn ho1
  go_wp2_with fail
  go_loopw [10, 31] (fun v i wr => ∃ (k : Nat) (r : List Pool) (s : Int), k ≤ m ∧ i = .int .i64 k ∧ v = .int .i64 s ∧ Bl w wr ∧ wr.ownsRow w.heap.size 25 3 (.slice (some ⟨g, 0, none⟩) n d1) n (r.flatMap Pool.cs) ∧ Hid (runAll dr l (o.take k) = some (r, s)) ∧ Hid (Ran l k r s)) (fun _ i _ => m - (intOf i).toNat)
  case atStart => exact ⟨0, l, 0, Nat.zero_le _, rfl, rfl, hb, ho2, rfl, ran_zero h1⟩
  case round =>
    clear hb ho2
    obtain ⟨k, r, s, hk, rfl, rfl, hb, hor, hrun, hran⟩ := hrel
    have HLr := Lib.hid (hran.out.len.trans HL.out)
    have b0 := hran.out.lo
    have b1 := hran.out.hi
    by_cases hlt : k < m
    · obtain ⟨p1, o1, x, rfl, e1, c1⟩ := ho.int hlt
      have q1 := c1 _ hb
      have HA := Lib.hid (upTo_at HO.out (by rw [HM.out]; exact hlt) e1)
      have E1 := Lib.hid e1
      have HS := Lib.hid (runAll_one (drain := dr) (l := l) e1)
      clear e1
      obtain ⟨g0, g1, g2, g3⟩ := ord_bd HA.out
      rw [HL.out] at g1 g2
      obtain ⟨j, rfl⟩ := Int.eq_ofNat_of_zero_le (a := x) (by omega)
      have hj : j < n := by omega
      have hj0 : 0 < j := by omega
      have h0 : 0 < n := by omega
      obtain ⟨w0', w0''⟩ := letV_bd hran.out.ok (i := 0) (j := j) (by rw [HLr.out]; exact h0) (by rw [HLr.out]; exact hj)
      obtain ⟨w1', w1''⟩ := letV_bd hran.out.ok (i := j) (j := 0) (by rw [HLr.out]; exact hj) (by rw [HLr.out]; exact h0)
      have hokr := hran.out.ok
      cases dr
      · have H4 : Hid (Calls Try.prog 67 #[.slice (some ⟨g, 0, none⟩) n d1, .int .i64 j, .int .i64 0] wr fun e w' => e = .returned (.tuple #[.int .i64 (letV r j 0), .bool (letOk r j 0)]) ∧ w'.ownsRow w.heap.size 25 3 (.slice (some ⟨g, 0, none⟩) n d1) n ((letL r j 0).flatMap Pool.cs) ∧ wr.grownBy w' (some g)) := letFlow_any w.heap.size g n d1 r j 0 wr hor HLr.out (by omega) (by omega) (by omega) hokr
        go_wp2_with fail
        refine H4.out.mono ?_
        rintro e w4 ⟨rfl, ho4, hg4⟩
        have hbn := Bl.row hb (Nat.le_refl _) hor hg4
        cases h5 : letOk r j 0
        · have HR := Lib.hid (flowAll_none (HS.out.trans (by rw [hrun.out]; exact step_no (drain := false) h5)))
          simp only [h5]
          go_wp2_with fail
          go_ret3
          rw [HR.out]
          exact NewRes.nil hbn
        · have HN := Lib.hid (ran_step hran.out (i := j) (j := 0) (by have := HLr.out; omega) (by have := HLr.out; omega) h5)
          have HT := Lib.hid (show runAll false l (o.take (k + 1)) = some (letL r j 0, s + letV r j 0) by rw [HS.out, hrun.out]; exact step_ok (drain := false) h5)
          simp only [h5]
          go_wp2_with fail
          first | exact ⟨⟨k + 1, letL r j 0, s + letV r j 0, by omega, by go_num, rfl, hbn, ho4, HT, HN⟩, by simp [intOf]; omega⟩ | (refine ⟨?_, by simp [intOf]; omega⟩; (repeat apply Exists.intro); exact ⟨⟨k + 1, letL r j 0, s + letV r j 0, by omega, by go_num, rfl, hbn, ho4, HT, HN⟩, rfl⟩)
      · have H4 : Hid (Calls Try.prog 67 #[.slice (some ⟨g, 0, none⟩) n d1, .int .i64 0, .int .i64 j] wr fun e w' => e = .returned (.tuple #[.int .i64 (letV r 0 j), .bool (letOk r 0 j)]) ∧ w'.ownsRow w.heap.size 25 3 (.slice (some ⟨g, 0, none⟩) n d1) n ((letL r 0 j).flatMap Pool.cs) ∧ wr.grownBy w' (some g)) := letFlow_any w.heap.size g n d1 r 0 j wr hor HLr.out (by omega) (by omega) (by omega) hokr
        go_wp2_with fail
        refine H4.out.mono ?_
        rintro e w4 ⟨rfl, ho4, hg4⟩
        have hbn := Bl.row hb (Nat.le_refl _) hor hg4
        cases h5 : letOk r 0 j
        · have HR := Lib.hid (flowAll_none (HS.out.trans (by rw [hrun.out]; exact step_no (drain := true) h5)))
          simp only [h5]
          go_wp2_with fail
          go_ret3
          rw [HR.out]
          exact NewRes.nil hbn
        · have HN := Lib.hid (ran_step hran.out (i := 0) (j := j) (by have := HLr.out; omega) (by have := HLr.out; omega) h5)
          have HT := Lib.hid (show runAll true l (o.take (k + 1)) = some (letL r 0 j, s + letV r 0 j) by rw [HS.out, hrun.out]; exact step_ok (drain := true) h5)
          simp only [h5]
          go_wp2_with fail
          first | exact ⟨⟨k + 1, letL r 0 j, s + letV r 0 j, by omega, by go_num, rfl, hbn, ho4, HT, HN⟩, by simp [intOf]; omega⟩ | (refine ⟨?_, by simp [intOf]; omega⟩; (repeat apply Exists.intro); exact ⟨⟨k + 1, letL r 0 j, s + letV r 0 j, by omega, by go_num, rfl, hbn, ho4, HT, HN⟩, rfl⟩)
    · have e : k = m := by omega
      subst e
      have HR := Lib.hid (flowAll_some HV.out (by rw [← hrun.out, take_all HM.out]))
      go_wp2_with fail
      go_ret3
      rw [HR.out]
      exact NewRes.own hor (Bl.refl w) HLr.out hn hb
set_option maxHeartbeats 400000 in
theorem specDrainChamber_any (A : Option Addr) (n c : Nat) (l : List Pool) (B : Option Addr) (m d : Nat) (o : List Int) (w : World) (h : Sl Pool.cs 3 w A n l) (ho : Sl ci 1 w B m o) (hn : n ≤ 1048576) (hm : m ≤ 1048576) (_ : n ≤ c) (hc : m ≤ d) :
    Calls Try.prog 43 #[.slice A n c, .slice B m d] w (NewRes Pool.cs 3 25 (flowAllR true l o).1 (fun v => .tuple #[v, .int .i64 (flowAllR true l o).2.1, .bool (flowAllR true l o).2.2]) w) := by
  have H1 := Lib.hid (l11Run_any A n c l B m d o true w h ho hn hm hc)
  go_enter Try.func43, Try.ntmps43
  go_wp2_with fail
  refine H1.out.mono ?_
  rintro e w' ⟨C, k, c4, rfl, ho4, hl4, hm4, hb⟩
  go_wp2_with fail
  go_ret3
  exact NewRes.own ho4 (Bl.refl w) hl4 hm4 hb
set_option maxHeartbeats 400000 in
theorem implDrainChamber_any (A : Option Addr) (n c : Nat) (l : List Pool) (B : Option Addr) (m d : Nat) (o : List Int) (w : World) (h : Sl Pool.cs 3 w A n l) (ho : Sl ci 1 w B m o) (hn : n ≤ 1048576) (hm : m ≤ 1048576) (_ : n ≤ c) (hc : m ≤ d) :
    Calls Try.prog 44 #[.slice A n c, .slice B m d] w (NewRes Pool.cs 3 25 (flowAllR true l o).1 (fun v => .tuple #[v, .int .i64 (flowAllR true l o).2.1, .bool (flowAllR true l o).2.2]) w) := by
  have H1 := Lib.hid (flowAll_any A n c l B m d o true w h ho hn hm hc)
  go_enter Try.func44, Try.ntmps44
  go_wp2_with fail
  refine H1.out.mono ?_
  rintro e w' ⟨C, k, c4, rfl, ho4, hl4, hm4, hb⟩
  go_wp2_with fail
  go_ret3
  exact NewRes.own ho4 (Bl.refl w) hl4 hm4 hb
set_option maxHeartbeats 400000 in
theorem specFillChamber_any (A : Option Addr) (n c : Nat) (l : List Pool) (B : Option Addr) (m d : Nat) (o : List Int) (w : World) (h : Sl Pool.cs 3 w A n l) (ho : Sl ci 1 w B m o) (hn : n ≤ 1048576) (hm : m ≤ 1048576) (_ : n ≤ c) (hc : m ≤ d) :
    Calls Try.prog 46 #[.slice A n c, .slice B m d] w (NewRes Pool.cs 3 25 (flowAllR false l o).1 (fun v => .tuple #[v, .int .i64 (flowAllR false l o).2.1, .bool (flowAllR false l o).2.2]) w) := by
  have H1 := Lib.hid (l11Run_any A n c l B m d o false w h ho hn hm hc)
  go_enter Try.func46, Try.ntmps46
  go_wp2_with fail
  refine H1.out.mono ?_
  rintro e w' ⟨C, k, c4, rfl, ho4, hl4, hm4, hb⟩
  go_wp2_with fail
  go_ret3
  exact NewRes.own ho4 (Bl.refl w) hl4 hm4 hb
set_option maxHeartbeats 400000 in
theorem implFillChamber_any (A : Option Addr) (n c : Nat) (l : List Pool) (B : Option Addr) (m d : Nat) (o : List Int) (w : World) (h : Sl Pool.cs 3 w A n l) (ho : Sl ci 1 w B m o) (hn : n ≤ 1048576) (hm : m ≤ 1048576) (_ : n ≤ c) (hc : m ≤ d) :
    Calls Try.prog 47 #[.slice A n c, .slice B m d] w (NewRes Pool.cs 3 25 (flowAllR false l o).1 (fun v => .tuple #[v, .int .i64 (flowAllR false l o).2.1, .bool (flowAllR false l o).2.2]) w) := by
  have H1 := Lib.hid (flowAll_any A n c l B m d o false w h ho hn hm hc)
  go_enter Try.func47, Try.ntmps47
  go_wp2_with fail
  refine H1.out.mono ?_
  rintro e w' ⟨C, k, c4, rfl, ho4, hl4, hm4, hb⟩
  go_wp2_with fail
  go_ret3
  exact NewRes.own ho4 (Bl.refl w) hl4 hm4 hb
end Go.Proofs.Yteejalanjeeecaa
