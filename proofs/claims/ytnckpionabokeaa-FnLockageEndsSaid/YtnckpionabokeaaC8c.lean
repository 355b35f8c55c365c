/- The contracts of the times of lockages in both programs. -/
import Derived.Test.YtnckpionabokeaaC8b
namespace Go.Proofs.Ytnckpionabokeaa
open Go.RowKit
set_option maxHeartbeats 2000000 in
theorem l8Times_any (A : Option Addr) (n c : Nat) (l : List Arrival) (high : Bool) (mi : Int) (B : Option Addr) (m d : Nat) (o : List Int) (w : World) (h : Sl Arrival.cs 4 w A n l) (ho : Sl ci 1 w B m o) (hr : ∀ (k : Nat) (x : Int), o[k]? = some x → 0 ≤ x ∧ x < n) (hv : ∀ (i : Nat) (a : Arrival), l[i]? = some a → 0 ≤ a.Minute ∧ a.Minute ≤ 9999) (m0 : 1 ≤ mi) (m1 : mi ≤ 60) (hm : m ≤ 1048576) :
    Calls Try.prog 62 #[.slice A n c, .bool high, .int .i64 mi, .slice B m d] w (NewRes ci 1 3 (runT l mi high o).out (fun v => v) w) := by
  have bn := h.le
  have bm := ho.le
  have HL := Lib.hid h.1
  have HM := Lib.hid ho.1
  have HR := Lib.hid hr
  have HV := Lib.hid hv
  clear hr hv
  have hmade := World.ownsRow_made (e := 3) (size := 1) w #[] 0 (Nat.le_refl _) (Nat.zero_le _) (by simp)
  have hb := (Bl.refl w).alloc (.cells #[] 3)
  go_enter Try.func62, Try.ntmps62
  go_wp2_with fail
  go_loopw [1, 9, 10, 11] (fun hh u f i wr => ∃ (k : Nat) (C : Option Addr) (c2 : Nat), k ≤ m ∧ i = .int .i64 k ∧ u = .slice C k c2 ∧ Bl w wr ∧ wr.ownsRow w.heap.size 3 1 (.slice C k c2) k ((runT l mi high (o.take k)).out.flatMap ci) ∧ hh = .bool (runT l mi high (o.take k)).high ∧ f = .int .i64 (runT l mi high (o.take k)).free ∧ Hid (Tk k (runT l mi high (o.take k)))) (fun _ _ _ i _ => m - (intOf i).toNat)
  case atStart => exact ⟨0, _, 0, Nat.zero_le _, rfl, rfl, hb, hmade, rfl, rfl, tk_zero high⟩
  case round =>
    clear hb hmade
    obtain ⟨k, C, c2, hk, rfl, rfl, hb, hor, rfl, rfl, htk⟩ := hrel
    by_cases hlt : k < m
    · obtain ⟨b1, o1, x, rfl, ex, c1⟩ := ho.int hlt
      have q1 := c1 _ hb
      obtain ⟨hx0, hx1⟩ := HR.out k x ex
      obtain ⟨j, rfl⟩ := Int.eq_ofNat_of_zero_le hx0
      have hj : j < n := by omega
      obtain ⟨b2, o2, p, rfl, ep, p1, p2, p3, p4⟩ := h.Arrival hj
      obtain ⟨mv0, mv1⟩ := HV.out j p ep
      have HS := Lib.hid (show runT l mi high (o.take (k + 1)) = stepT mi (runT l mi high (o.take k)) p by rw [runT_one ex, arrAtI_nat ep])
      have HN := Lib.hid (tk_step (a := p) htk.out m0 m1 mv0 mv1)
      have g1 := p1 _ hb
      have g2 := p2 _ hb
      have g3 := p3 _ hb
      have g4 := p4 _ hb
      have hle := hb.le
      obtain ⟨p0, pu, pm, pw⟩ := p
      simp only at mv0 mv1 g1 g2 g3 g4
      clear ex ep c1 p1 p2 p3 p4
      generalize runT l mi high (o.take k) = s at *
      obtain ⟨fr, hg, tu, out⟩ := s
      have f0 := htk.out.f0
      have f1 := htk.out.f1
      have t0 := htk.out.t0
      have t1 := htk.out.t1
      simp only at f0 f1 t0 t1 hor
      have HNe := Lib.hid (fun (h : ¬ pu = hg) => HS.out.trans (stepT_ne (a := ⟨p0, pu, pm, pw⟩) (s := ⟨fr, hg, tu, out⟩) h))
      have HEq := Lib.hid (fun (h : pu = hg) => HS.out.trans (stepT_eq (a := ⟨p0, pu, pm, pw⟩) (s := ⟨fr, hg, tu, out⟩) h))
      rw [← HS.out] at HN
      clear HS htk
      cases pu <;> cases hg
      · have HS := Lib.hid (HEq.out rfl)
        clear HNe HEq
        go_wp2_with fail
        refine (l1Most_any _ _ _).mono ?_
        rintro e w' ⟨rfl, rfl⟩
        obtain ⟨i0, hi0, hz0, hz1, hz2⟩ := info_parts infoInt
        go_wp2_with (at_builtin; refine wpList_append_one _ rfl _ _ _ rfl _ 3 i0 _ 1 8 Try.underlying31 hi0 hz0 hz1 hz2 rfl (by omega) ci_len ci_one _ k out rfl (max (fr + mi) pm) _ rfl (by first | rfl | simp) _ rfl (hor.alloc _) (by simp; omega) (by unfold maxLen; omega) (by omega) ?_)
        clear hi0 hz0 hz1 hz2
        intro C5 d5 w5 ho5 hg5
        have HO5 := Lib.hid ho5
        clear ho5
        have hb5 := Bl.row (hb.alloc _) (Nat.le_refl _) (hor.alloc _) hg5
        go_wp2_with fail
        first | exact ⟨⟨k + 1, C5, d5, by omega, by go_num, rfl, hb5, by rw [(congrArg Ts.out HS.out : _ = out ++ [_]), List.flatMap_append]; exact HO5.out, by rw [HS.out], by rw [HS.out], HN⟩, by simp [intOf]; omega⟩ | (refine ⟨?_, by simp [intOf]; omega⟩; (repeat apply Exists.intro); exact ⟨⟨k + 1, C5, d5, by omega, by go_num, rfl, hb5, by rw [(congrArg Ts.out HS.out : _ = out ++ [_]), List.flatMap_append]; exact HO5.out, by rw [HS.out], by rw [HS.out], HN⟩, rfl⟩)
      · have HS := Lib.hid (HNe.out (by simp))
        clear HNe HEq
        go_wp2_with fail
        refine (l1Most_any _ _ _).mono ?_
        rintro e w' ⟨rfl, rfl⟩
        obtain ⟨i0, hi0, hz0, hz1, hz2⟩ := info_parts infoInt
        go_wp2_with (at_builtin; refine wpList_append_one _ rfl _ _ _ rfl _ 3 i0 _ 1 8 Try.underlying31 hi0 hz0 hz1 hz2 rfl (by omega) ci_len ci_one _ k out rfl (max fr pm) _ rfl (by first | rfl | simp) _ rfl (hor.alloc _) (by simp; omega) (by unfold maxLen; omega) (by omega) ?_)
        clear hi0 hz0 hz1 hz2
        intro C5 d5 w5 ho5 hg5
        have HO5 := Lib.hid ho5
        clear ho5
        have hb5 := Bl.row (hb.alloc _) (Nat.le_refl _) (hor.alloc _) hg5
        go_wp2_with fail
        first | exact ⟨⟨k + 1, C5, d5, by omega, by go_num, rfl, hb5, by rw [(congrArg Ts.out HS.out : _ = out ++ [_]), List.flatMap_append]; exact HO5.out, by rw [HS.out], by rw [HS.out], HN⟩, by simp [intOf]; omega⟩ | (refine ⟨?_, by simp [intOf]; omega⟩; (repeat apply Exists.intro); exact ⟨⟨k + 1, C5, d5, by omega, by go_num, rfl, hb5, by rw [(congrArg Ts.out HS.out : _ = out ++ [_]), List.flatMap_append]; exact HO5.out, by rw [HS.out], by rw [HS.out], HN⟩, rfl⟩)
      · have HS := Lib.hid (HNe.out (by simp))
        clear HNe HEq
        go_wp2_with fail
        refine (l1Most_any _ _ _).mono ?_
        rintro e w' ⟨rfl, rfl⟩
        obtain ⟨i0, hi0, hz0, hz1, hz2⟩ := info_parts infoInt
        go_wp2_with (at_builtin; refine wpList_append_one _ rfl _ _ _ rfl _ 3 i0 _ 1 8 Try.underlying31 hi0 hz0 hz1 hz2 rfl (by omega) ci_len ci_one _ k out rfl (max fr pm) _ rfl (by first | rfl | simp) _ rfl (hor.alloc _) (by simp; omega) (by unfold maxLen; omega) (by omega) ?_)
        clear hi0 hz0 hz1 hz2
        intro C5 d5 w5 ho5 hg5
        have HO5 := Lib.hid ho5
        clear ho5
        have hb5 := Bl.row (hb.alloc _) (Nat.le_refl _) (hor.alloc _) hg5
        go_wp2_with fail
        first | exact ⟨⟨k + 1, C5, d5, by omega, by go_num, rfl, hb5, by rw [(congrArg Ts.out HS.out : _ = out ++ [_]), List.flatMap_append]; exact HO5.out, by rw [HS.out], by rw [HS.out], HN⟩, by simp [intOf]; omega⟩ | (refine ⟨?_, by simp [intOf]; omega⟩; (repeat apply Exists.intro); exact ⟨⟨k + 1, C5, d5, by omega, by go_num, rfl, hb5, by rw [(congrArg Ts.out HS.out : _ = out ++ [_]), List.flatMap_append]; exact HO5.out, by rw [HS.out], by rw [HS.out], HN⟩, rfl⟩)
      · have HS := Lib.hid (HEq.out rfl)
        clear HNe HEq
        go_wp2_with fail
        refine (l1Most_any _ _ _).mono ?_
        rintro e w' ⟨rfl, rfl⟩
        obtain ⟨i0, hi0, hz0, hz1, hz2⟩ := info_parts infoInt
        go_wp2_with (at_builtin; refine wpList_append_one _ rfl _ _ _ rfl _ 3 i0 _ 1 8 Try.underlying31 hi0 hz0 hz1 hz2 rfl (by omega) ci_len ci_one _ k out rfl (max (fr + mi) pm) _ rfl (by first | rfl | simp) _ rfl (hor.alloc _) (by simp; omega) (by unfold maxLen; omega) (by omega) ?_)
        clear hi0 hz0 hz1 hz2
        intro C5 d5 w5 ho5 hg5
        have HO5 := Lib.hid ho5
        clear ho5
        have hb5 := Bl.row (hb.alloc _) (Nat.le_refl _) (hor.alloc _) hg5
        go_wp2_with fail
        first | exact ⟨⟨k + 1, C5, d5, by omega, by go_num, rfl, hb5, by rw [(congrArg Ts.out HS.out : _ = out ++ [_]), List.flatMap_append]; exact HO5.out, by rw [HS.out], by rw [HS.out], HN⟩, by simp [intOf]; omega⟩ | (refine ⟨?_, by simp [intOf]; omega⟩; (repeat apply Exists.intro); exact ⟨⟨k + 1, C5, d5, by omega, by go_num, rfl, hb5, by rw [(congrArg Ts.out HS.out : _ = out ++ [_]), List.flatMap_append]; exact HO5.out, by rw [HS.out], by rw [HS.out], HN⟩, rfl⟩)
    · have e : k = m := by omega
      subst e
      have HE := Lib.hid (show runT l mi high (o.take k) = runT l mi high o by rw [take_all HM.out])
      rw [HE.out] at hor htk
      have HT := Lib.hid htk.out.len
      go_wp2_with fail
      go_ret
      exact NewRes.own hor (Bl.refl w) HT.out hm hb
set_option maxHeartbeats 2000000 in
theorem lockageTimes_any (A : Option Addr) (n c : Nat) (l : List Arrival) (high : Bool) (mi : Int) (B : Option Addr) (m d : Nat) (o : List Int) (w : World) (h : Sl Arrival.cs 4 w A n l) (ho : Sl ci 1 w B m o) (hr : ∀ (k : Nat) (x : Int), o[k]? = some x → 0 ≤ x ∧ x < n) (hv : ∀ (i : Nat) (a : Arrival), l[i]? = some a → 0 ≤ a.Minute ∧ a.Minute ≤ 9999) (m0 : 1 ≤ mi) (m1 : mi ≤ 60) (hm : m ≤ 1048576) :
    Calls Try.prog 61 #[.slice A n c, .bool high, .int .i64 mi, .slice B m d] w (NewRes ci 1 3 (runT l mi high o).out (fun v => .tuple #[v, .int .i64 (runT l mi high o).turns]) w) := by
  have bn := h.le
  have bm := ho.le
  have HL := Lib.hid h.1
  have HM := Lib.hid ho.1
  have HR := Lib.hid hr
  have HV := Lib.hid hv
  clear hr hv
  have hmade := World.ownsRow_made (e := 3) (size := 1) w #[] 0 (Nat.le_refl _) (Nat.zero_le _) (by simp)
  have hb := (Bl.refl w).alloc (.cells #[] 3)
  go_enter Try.func61, Try.ntmps61
  go_wp2_with fail
  go_loopw [1, 10, 11, 12, 19] (fun hh u f t i wr => ∃ (k : Nat) (C : Option Addr) (c2 : Nat), k ≤ m ∧ i = .int .i64 k ∧ u = .slice C k c2 ∧ Bl w wr ∧ wr.ownsRow w.heap.size 3 1 (.slice C k c2) k ((runT l mi high (o.take k)).out.flatMap ci) ∧ hh = .bool (runT l mi high (o.take k)).high ∧ f = .int .i64 (runT l mi high (o.take k)).free ∧ t = .int .i64 (runT l mi high (o.take k)).turns ∧ Hid (Tk k (runT l mi high (o.take k)))) (fun _ _ _ _ i _ => m - (intOf i).toNat)
  case atStart => exact ⟨0, _, 0, Nat.zero_le _, rfl, rfl, hb, hmade, rfl, rfl, rfl, tk_zero high⟩
  case round =>
    clear hb hmade
    obtain ⟨k, C, c2, hk, rfl, rfl, hb, hor, rfl, rfl, rfl, htk⟩ := hrel
    by_cases hlt : k < m
    · obtain ⟨b1, o1, x, rfl, ex, c1⟩ := ho.int hlt
      have q1 := c1 _ hb
      obtain ⟨hx0, hx1⟩ := HR.out k x ex
      obtain ⟨j, rfl⟩ := Int.eq_ofNat_of_zero_le hx0
      have hj : j < n := by omega
      obtain ⟨b2, o2, p, rfl, ep, p1, p2, p3, p4⟩ := h.Arrival hj
      obtain ⟨mv0, mv1⟩ := HV.out j p ep
      have HS := Lib.hid (show runT l mi high (o.take (k + 1)) = stepT mi (runT l mi high (o.take k)) p by rw [runT_one ex, arrAtI_nat ep])
      have HN := Lib.hid (tk_step (a := p) htk.out m0 m1 mv0 mv1)
      have g1 := p1 _ hb
      have g2 := p2 _ hb
      have g3 := p3 _ hb
      have g4 := p4 _ hb
      have hle := hb.le
      obtain ⟨p0, pu, pm, pw⟩ := p
      simp only at mv0 mv1 g1 g2 g3 g4
      have P2 := Lib.hid p2
      clear ex ep c1 p1 p2 p3 p4
      generalize runT l mi high (o.take k) = s at *
      obtain ⟨fr, hg, tu, out⟩ := s
      have f0 := htk.out.f0
      have f1 := htk.out.f1
      have t0 := htk.out.t0
      have t1 := htk.out.t1
      simp only at f0 f1 t0 t1 hor
      have HNe := Lib.hid (fun (h : ¬ pu = hg) => HS.out.trans (stepT_ne (a := ⟨p0, pu, pm, pw⟩) (s := ⟨fr, hg, tu, out⟩) h))
      have HEq := Lib.hid (fun (h : pu = hg) => HS.out.trans (stepT_eq (a := ⟨p0, pu, pm, pw⟩) (s := ⟨fr, hg, tu, out⟩) h))
      rw [← HS.out] at HN
      clear HS htk
      cases pu <;> cases hg
      · have HS := Lib.hid (HEq.out rfl)
        clear HNe HEq
        by_cases hc : (fr + mi) < pm
        · have hmx : max (fr + mi) pm = pm := by omega
          simp only [hmx] at HS
          clear hmx
          obtain ⟨i0, hi0, hz0, hz1, hz2⟩ := info_parts infoInt
          go_wp2_with (at_builtin; refine wpList_append_one _ rfl _ _ _ rfl _ 3 i0 _ 1 8 Try.underlying31 hi0 hz0 hz1 hz2 rfl (by omega) ci_len ci_one _ k out rfl (pm) _ rfl (by first | rfl | simp) _ rfl hor hle (by unfold maxLen; omega) (by omega) ?_)
          clear hi0 hz0 hz1 hz2
          intro C5 d5 w5 ho5 hg5
          have HO5 := Lib.hid ho5
          clear ho5
          have hb5 := Bl.row hb (Nat.le_refl _) hor hg5
          have y2 := P2.out _ hb5
          go_wp2_with fail
          first | exact ⟨⟨k + 1, C5, d5, by omega, by go_num, rfl, hb5, by rw [(congrArg Ts.out HS.out : _ = out ++ [_]), List.flatMap_append]; exact HO5.out, by rw [HS.out], by rw [HS.out], by rw [HS.out], HN⟩, by simp [intOf]; omega⟩ | (refine ⟨?_, by simp [intOf]; omega⟩; (repeat apply Exists.intro); exact ⟨⟨k + 1, C5, d5, by omega, by go_num, rfl, hb5, by rw [(congrArg Ts.out HS.out : _ = out ++ [_]), List.flatMap_append]; exact HO5.out, by rw [HS.out], by rw [HS.out], by rw [HS.out], HN⟩, rfl⟩)
        · have hmx : max (fr + mi) pm = (fr + mi) := by omega
          simp only [hmx] at HS
          clear hmx
          obtain ⟨i0, hi0, hz0, hz1, hz2⟩ := info_parts infoInt
          go_wp2_with (at_builtin; refine wpList_append_one _ rfl _ _ _ rfl _ 3 i0 _ 1 8 Try.underlying31 hi0 hz0 hz1 hz2 rfl (by omega) ci_len ci_one _ k out rfl (fr + mi) _ rfl (by first | rfl | simp) _ rfl hor hle (by unfold maxLen; omega) (by omega) ?_)
          clear hi0 hz0 hz1 hz2
          intro C5 d5 w5 ho5 hg5
          have HO5 := Lib.hid ho5
          clear ho5
          have hb5 := Bl.row hb (Nat.le_refl _) hor hg5
          have y2 := P2.out _ hb5
          go_wp2_with fail
          first | exact ⟨⟨k + 1, C5, d5, by omega, by go_num, rfl, hb5, by rw [(congrArg Ts.out HS.out : _ = out ++ [_]), List.flatMap_append]; exact HO5.out, by rw [HS.out], by rw [HS.out], by rw [HS.out], HN⟩, by simp [intOf]; omega⟩ | (refine ⟨?_, by simp [intOf]; omega⟩; (repeat apply Exists.intro); exact ⟨⟨k + 1, C5, d5, by omega, by go_num, rfl, hb5, by rw [(congrArg Ts.out HS.out : _ = out ++ [_]), List.flatMap_append]; exact HO5.out, by rw [HS.out], by rw [HS.out], by rw [HS.out], HN⟩, rfl⟩)
      · have HS := Lib.hid (HNe.out (by simp))
        clear HNe HEq
        by_cases hc : fr < pm
        · have hmx : max fr pm = pm := by omega
          simp only [hmx] at HS
          clear hmx
          obtain ⟨i0, hi0, hz0, hz1, hz2⟩ := info_parts infoInt
          go_wp2_with (at_builtin; refine wpList_append_one _ rfl _ _ _ rfl _ 3 i0 _ 1 8 Try.underlying31 hi0 hz0 hz1 hz2 rfl (by omega) ci_len ci_one _ k out rfl (pm) _ rfl (by first | rfl | simp) _ rfl hor hle (by unfold maxLen; omega) (by omega) ?_)
          clear hi0 hz0 hz1 hz2
          intro C5 d5 w5 ho5 hg5
          have HO5 := Lib.hid ho5
          clear ho5
          have hb5 := Bl.row hb (Nat.le_refl _) hor hg5
          have y2 := P2.out _ hb5
          go_wp2_with fail
          first | exact ⟨⟨k + 1, C5, d5, by omega, by go_num, rfl, hb5, by rw [(congrArg Ts.out HS.out : _ = out ++ [_]), List.flatMap_append]; exact HO5.out, by rw [HS.out], by rw [HS.out], by rw [HS.out], HN⟩, by simp [intOf]; omega⟩ | (refine ⟨?_, by simp [intOf]; omega⟩; (repeat apply Exists.intro); exact ⟨⟨k + 1, C5, d5, by omega, by go_num, rfl, hb5, by rw [(congrArg Ts.out HS.out : _ = out ++ [_]), List.flatMap_append]; exact HO5.out, by rw [HS.out], by rw [HS.out], by rw [HS.out], HN⟩, rfl⟩)
        · have hmx : max fr pm = fr := by omega
          simp only [hmx] at HS
          clear hmx
          obtain ⟨i0, hi0, hz0, hz1, hz2⟩ := info_parts infoInt
          go_wp2_with (at_builtin; refine wpList_append_one _ rfl _ _ _ rfl _ 3 i0 _ 1 8 Try.underlying31 hi0 hz0 hz1 hz2 rfl (by omega) ci_len ci_one _ k out rfl (fr) _ rfl (by first | rfl | simp) _ rfl hor hle (by unfold maxLen; omega) (by omega) ?_)
          clear hi0 hz0 hz1 hz2
          intro C5 d5 w5 ho5 hg5
          have HO5 := Lib.hid ho5
          clear ho5
          have hb5 := Bl.row hb (Nat.le_refl _) hor hg5
          have y2 := P2.out _ hb5
          go_wp2_with fail
          first | exact ⟨⟨k + 1, C5, d5, by omega, by go_num, rfl, hb5, by rw [(congrArg Ts.out HS.out : _ = out ++ [_]), List.flatMap_append]; exact HO5.out, by rw [HS.out], by rw [HS.out], by rw [HS.out], HN⟩, by simp [intOf]; omega⟩ | (refine ⟨?_, by simp [intOf]; omega⟩; (repeat apply Exists.intro); exact ⟨⟨k + 1, C5, d5, by omega, by go_num, rfl, hb5, by rw [(congrArg Ts.out HS.out : _ = out ++ [_]), List.flatMap_append]; exact HO5.out, by rw [HS.out], by rw [HS.out], by rw [HS.out], HN⟩, rfl⟩)
      · have HS := Lib.hid (HNe.out (by simp))
        clear HNe HEq
        by_cases hc : fr < pm
        · have hmx : max fr pm = pm := by omega
          simp only [hmx] at HS
          clear hmx
          obtain ⟨i0, hi0, hz0, hz1, hz2⟩ := info_parts infoInt
          go_wp2_with (at_builtin; refine wpList_append_one _ rfl _ _ _ rfl _ 3 i0 _ 1 8 Try.underlying31 hi0 hz0 hz1 hz2 rfl (by omega) ci_len ci_one _ k out rfl (pm) _ rfl (by first | rfl | simp) _ rfl hor hle (by unfold maxLen; omega) (by omega) ?_)
          clear hi0 hz0 hz1 hz2
          intro C5 d5 w5 ho5 hg5
          have HO5 := Lib.hid ho5
          clear ho5
          have hb5 := Bl.row hb (Nat.le_refl _) hor hg5
          have y2 := P2.out _ hb5
          go_wp2_with fail
          first | exact ⟨⟨k + 1, C5, d5, by omega, by go_num, rfl, hb5, by rw [(congrArg Ts.out HS.out : _ = out ++ [_]), List.flatMap_append]; exact HO5.out, by rw [HS.out], by rw [HS.out], by rw [HS.out], HN⟩, by simp [intOf]; omega⟩ | (refine ⟨?_, by simp [intOf]; omega⟩; (repeat apply Exists.intro); exact ⟨⟨k + 1, C5, d5, by omega, by go_num, rfl, hb5, by rw [(congrArg Ts.out HS.out : _ = out ++ [_]), List.flatMap_append]; exact HO5.out, by rw [HS.out], by rw [HS.out], by rw [HS.out], HN⟩, rfl⟩)
        · have hmx : max fr pm = fr := by omega
          simp only [hmx] at HS
          clear hmx
          obtain ⟨i0, hi0, hz0, hz1, hz2⟩ := info_parts infoInt
          go_wp2_with (at_builtin; refine wpList_append_one _ rfl _ _ _ rfl _ 3 i0 _ 1 8 Try.underlying31 hi0 hz0 hz1 hz2 rfl (by omega) ci_len ci_one _ k out rfl (fr) _ rfl (by first | rfl | simp) _ rfl hor hle (by unfold maxLen; omega) (by omega) ?_)
          clear hi0 hz0 hz1 hz2
          intro C5 d5 w5 ho5 hg5
          have HO5 := Lib.hid ho5
          clear ho5
          have hb5 := Bl.row hb (Nat.le_refl _) hor hg5
          have y2 := P2.out _ hb5
          go_wp2_with fail
          first | exact ⟨⟨k + 1, C5, d5, by omega, by go_num, rfl, hb5, by rw [(congrArg Ts.out HS.out : _ = out ++ [_]), List.flatMap_append]; exact HO5.out, by rw [HS.out], by rw [HS.out], by rw [HS.out], HN⟩, by simp [intOf]; omega⟩ | (refine ⟨?_, by simp [intOf]; omega⟩; (repeat apply Exists.intro); exact ⟨⟨k + 1, C5, d5, by omega, by go_num, rfl, hb5, by rw [(congrArg Ts.out HS.out : _ = out ++ [_]), List.flatMap_append]; exact HO5.out, by rw [HS.out], by rw [HS.out], by rw [HS.out], HN⟩, rfl⟩)
      · have HS := Lib.hid (HEq.out rfl)
        clear HNe HEq
        by_cases hc : (fr + mi) < pm
        · have hmx : max (fr + mi) pm = pm := by omega
          simp only [hmx] at HS
          clear hmx
          obtain ⟨i0, hi0, hz0, hz1, hz2⟩ := info_parts infoInt
          go_wp2_with (at_builtin; refine wpList_append_one _ rfl _ _ _ rfl _ 3 i0 _ 1 8 Try.underlying31 hi0 hz0 hz1 hz2 rfl (by omega) ci_len ci_one _ k out rfl (pm) _ rfl (by first | rfl | simp) _ rfl hor hle (by unfold maxLen; omega) (by omega) ?_)
          clear hi0 hz0 hz1 hz2
          intro C5 d5 w5 ho5 hg5
          have HO5 := Lib.hid ho5
          clear ho5
          have hb5 := Bl.row hb (Nat.le_refl _) hor hg5
          have y2 := P2.out _ hb5
          go_wp2_with fail
          first | exact ⟨⟨k + 1, C5, d5, by omega, by go_num, rfl, hb5, by rw [(congrArg Ts.out HS.out : _ = out ++ [_]), List.flatMap_append]; exact HO5.out, by rw [HS.out], by rw [HS.out], by rw [HS.out], HN⟩, by simp [intOf]; omega⟩ | (refine ⟨?_, by simp [intOf]; omega⟩; (repeat apply Exists.intro); exact ⟨⟨k + 1, C5, d5, by omega, by go_num, rfl, hb5, by rw [(congrArg Ts.out HS.out : _ = out ++ [_]), List.flatMap_append]; exact HO5.out, by rw [HS.out], by rw [HS.out], by rw [HS.out], HN⟩, rfl⟩)
        · have hmx : max (fr + mi) pm = (fr + mi) := by omega
          simp only [hmx] at HS
          clear hmx
          obtain ⟨i0, hi0, hz0, hz1, hz2⟩ := info_parts infoInt
          go_wp2_with (at_builtin; refine wpList_append_one _ rfl _ _ _ rfl _ 3 i0 _ 1 8 Try.underlying31 hi0 hz0 hz1 hz2 rfl (by omega) ci_len ci_one _ k out rfl (fr + mi) _ rfl (by first | rfl | simp) _ rfl hor hle (by unfold maxLen; omega) (by omega) ?_)
          clear hi0 hz0 hz1 hz2
          intro C5 d5 w5 ho5 hg5
          have HO5 := Lib.hid ho5
          clear ho5
          have hb5 := Bl.row hb (Nat.le_refl _) hor hg5
          have y2 := P2.out _ hb5
          go_wp2_with fail
          first | exact ⟨⟨k + 1, C5, d5, by omega, by go_num, rfl, hb5, by rw [(congrArg Ts.out HS.out : _ = out ++ [_]), List.flatMap_append]; exact HO5.out, by rw [HS.out], by rw [HS.out], by rw [HS.out], HN⟩, by simp [intOf]; omega⟩ | (refine ⟨?_, by simp [intOf]; omega⟩; (repeat apply Exists.intro); exact ⟨⟨k + 1, C5, d5, by omega, by go_num, rfl, hb5, by rw [(congrArg Ts.out HS.out : _ = out ++ [_]), List.flatMap_append]; exact HO5.out, by rw [HS.out], by rw [HS.out], by rw [HS.out], HN⟩, rfl⟩)
    · have e : k = m := by omega
      subst e
      have HE := Lib.hid (show runT l mi high (o.take k) = runT l mi high o by rw [take_all HM.out])
      rw [HE.out] at hor htk ⊢
      have HT := Lib.hid htk.out.len
      go_wp2_with fail
      go_ret2
      exact NewRes.own hor (Bl.refl w) HT.out hm hb
end Go.Proofs.Ytnckpionabokeaa
