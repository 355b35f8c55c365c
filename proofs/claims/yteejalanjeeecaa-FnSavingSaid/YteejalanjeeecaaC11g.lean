/- The contracts of the best draining in the reference, by recursion. -/
import Derived.Test.YteejalanjeeecaaQ11b
import Derived.Test.YteejalanjeeecaaC11e
import Derived.Test.YteejalanjeeecaaBaseY
namespace Go.Proofs.Yteejalanjeeecaa
open Go.RowKit
/-- What a call that continues an order hands back. -/
def BestResD (bs : Nat) (R : Option (List Int × Int)) (w : World) (e : Ending) (w' : World) : Prop := ∃ C m c2 z, e = .returned (.tuple #[.slice C m c2, .int .i64 z]) ∧ Bl w w' ∧ (R = none → z = -1) ∧ ∀ r, R = some r → z = r.2 ∧ w'.ownsRow bs 3 1 (.slice C m c2) m (r.1.flatMap ci)
set_option maxHeartbeats 4000000 in
theorem l11Best_any (A : Option Addr) (n c : Nat) (l : List Pool) (hok : poolsOk l = true) (hln : l.length = n) :
    ∀ (f : Nat) (B : Option Addr) (m d bs : Nat) (o : List Int) (w : World), Sl Pool.cs 3 w A n l → w.ownsRow bs 3 1 (.slice B m d) m (o.flatMap ci) → bs ≤ w.heap.size → o.length = m → m + f + 1 = n → orderOk n o = true →
    Calls Try.prog 74 #[.slice A n c, .slice B m d] w (BestResD bs (contD l f o) w) := by
  have hl6 := len_ok hok
  have HLN := Lib.hid hln
  have HOK := Lib.hid hok
  rw [hln] at hl6
  clear hln hok
  intro f
  induction f with
  | zero =>
    intro B m d bs o w h ho hbs hlo hf hv
    have hS := Sl.of_own ci_len ho hlo (by omega)
    have hd := own_cap ho
    have HO := Lib.hid ho
    have H1 := Lib.hid (l11Run_any A n c l B m d o true w h hS (by omega) (by omega) hd)
    have HE : Hid (contD l 0 o = endD l o) := rfl
    have HS := Lib.hid (fun r => end_some (l := l) (o := o) (r := r))
    have HF := Lib.hid (fun h => end_none (l := l) (o := o) h)
    have HB := Lib.hid (saved_all l o)
    have hnm : n = m + 1 := by omega
    subst hnm
    generalize contD l 0 o = R at *
    generalize endD l o = R0 at *
    generalize flowAllR true l o = T at *
    obtain ⟨T1, T2, T3⟩ := T
    simp only at H1 HS HF HB
    clear ho hlo hf hv hd hS
    cases T3
    · have HN : Hid (R0 = none) := by
        show _ = _
        cases h0 : R0 with
        | none => rfl
        | some r => have := (HS.out r h0).2.1; cases this
      go_enter Try.func74, Try.ntmps74
      go_wp2_with fail
      refine H1.out.mono ?_
      rintro e w1 ⟨C, k, c4, rfl, ho4, hl4, hm4, hb⟩
      clear ho4
      go_wp2_with fail
      go_ret2
      exact ⟨B, m, d, -1, rfl, hb, fun _ => rfl, fun r hr => by rw [HE.out, HN.out] at hr; cases hr⟩
    · have HN : Hid (R0 = some (o, T2)) := by
        show _ = _
        cases h0 : R0 with
        | none => have := HF.out h0; cases this
        | some r => rw [(HS.out r h0).1]
      go_enter Try.func74, Try.ntmps74
      go_wp2_with fail
      refine H1.out.mono ?_
      rintro e w1 ⟨C, k, c4, rfl, ho4, hl4, hm4, hb⟩
      clear ho4
      go_wp2_with fail
      go_ret2
      refine ⟨B, m, d, T2, rfl, hb, fun hr => ?_, fun r hr => ?_⟩
      · rw [HE.out, HN.out] at hr; cases hr
      · rw [HE.out, HN.out] at hr
        have e := Option.some.inj hr
        subst e
        exact ⟨rfl, hb.own HO.out⟩
  | succ f ih =>
    intro B m d bs o w h ho hbs hlo hf hv
    have hne : ((m : Int) == (n : Int) - 1) = false := by simp; omega
    have hm6 : m ≤ 5 := by omega
    have hS := Sl.of_own ci_len ho hlo (by omega)
    have HV := Lib.hid hv
    have HLO := Lib.hid hlo
    have HF := Lib.hid hf
    have HE := Lib.hid (contDK_end (f := f) (o := o) HLN.out)
    have HBD := Lib.hid (fun k (hk : k ≤ n) s hs => contDK_bd (l := l) (f := f) (o := o) (by rw [hlo, HLN.out]; omega) (by rw [HLN.out]; exact hv) (k := k) (by rw [HLN.out]; exact hk) (r := s) hs)
    have HO := Lib.hid ho
    have IH := Lib.hid ih
    have hmade := made_at ci 1 w 3 bs _ rfl hbs
    have hb := (Bl.refl w).alloc (.cells #[] 3)
    have H10 := Lib.hid (contDK_one (l := l) f o)
    clear ho ih hf hlo hv
    go_enter Try.func74, Try.ntmps74
    go_wp2_with fail
    go_loopw [9, 10, 11] (fun b z i wr => ∃ (k : Nat) (Cb : Option Addr) (mb cb : Nat) (s : List Int × Int), 1 ≤ k ∧ k ≤ n ∧ i = .int .i64 k ∧ b = .slice Cb mb cb ∧ z = .int .i64 s.2 ∧ Bl w wr ∧ Hid (contDK l f o k = some s) ∧ Hid (wr.ownsRow bs 3 1 (.slice Cb mb cb) mb (s.1.flatMap ci))) (fun _ _ i _ => n - (intOf i).toNat)
    case atStart => exact ⟨1, _, 0, 0, ([], -1), Nat.le_refl _, by omega, rfl, rfl, rfl, hb, H10, hmade⟩
    case round =>
      clear hb hmade
      obtain ⟨k, Cb, mb, cb, s, hk1, hk, rfl, rfl, rfl, hb, HK, HOR⟩ := hrel
      obtain ⟨sb, sz⟩ := s
      obtain ⟨hz0, hz1⟩ := HBD.out k hk _ HK.out
      simp only at hz0 hz1 HOR
      by_cases hlt : k < n
      · have H1 : Hid (Calls Try.prog 87 #[.slice B m d, .int .i64 k] wr fun e w' => e = .returned (.bool (hasB o (k : Int))) ∧ Bl wr w') := l1Has_any B m d o (k : Int) wr (hS.bl hb)
        have hgo := goes_pos o hk1
        cases hhas : hasB o (k : Int)
        · have hg : goes o k = true := by rw [hgo, hhas]; rfl
          have HN := Lib.hid (contDK_yes (l := l) (f := f) hg)
          have HVN := Lib.hid (order_snoc HV.out hlt hg)
          have HIH := Lib.hid (fun C5 d5 W hW ho hbs => IH.out C5 (m + 1) d5 bs (o ++ [(k : Int)]) W hW ho hbs (by rw [snoc_len, HLO.out]) (by have := HF.out; omega) HVN.out)
          have HWH := Lib.hid (fun r (hr : contD l f (o ++ [(k : Int)]) = some r) => (contD_whole f _ r (by rw [snoc_len, HLO.out, HLN.out]; have := HF.out; omega) (by rw [HLN.out]; exact HVN.out) hr).2.2)
          have HDN := Lib.hid (fun (h0 : contDK l f o (k + 1) = none) => contDK_none h0 n (by omega))
          have H2 := Lib.hid (fun W hW => l1Own_any B m d o W hW (by omega))
          rw [hhas] at H1
          rw [HK.out] at HN
          clear IH hg hgo
          generalize contD l f (o ++ [(k : Int)]) = R at *
          go_wp2_with fail
          refine H1.out.mono ?_
          rintro e w2 ⟨rfl, hbn⟩
          have hb2 := hb.trans hbn
          have HOR2 := Lib.hid (hbn.own HOR.out)
          clear hbn HOR
          go_wp2_with fail
          refine (H2.out _ (hS.bl hb2)).mono ?_
          rintro e w3 ⟨C3, m3, d3, rfl, ho3, hl3, hm3, hbn⟩
          obtain rfl : m3 = m := by rw [← hl3]; exact HLO.out
          have hbs3 := hbn.le
          clear hl3
          obtain ⟨i0, hi0, hz0, hz1, hz2⟩ := info_parts infoInt
          go_wp2_with (at_builtin; refine wpList_append_one _ rfl _ _ _ rfl _ 3 i0 _ 1 8 Try.underlying45 hi0 hz0 hz1 hz2 rfl (by omega) ci_len ci_one _ m3 o rfl (k : Int) _ rfl (by first | rfl | simp) _ rfl ho3 hbs3 (by unfold maxLen; omega) (by omega) ?_)
          clear hi0 hz0 hz1 hz2
          intro C5 d5 w5 ho5 hg5
          have hb5 := Bl.row hbn (Nat.le_refl _) ho3 hg5
          have HO5 := Lib.hid (show w5.ownsRow bs 3 1 (.slice C5 (m3 + 1) d5) (m3 + 1) ((o ++ [(k : Int)]).flatMap ci) by rw [ci_snoc]; exact own_mono ho5 (Nat.le_trans hbs hb2.le))
          have HOR5 := Lib.hid (hb5.own HOR2.out)
          have hbw5 := hb2.trans hb5
          clear hbn ho3 ho5 hg5 hb5 HOR2
          go_wp2_with fail
          refine (HIH.out C5 d5 w5 (h.bl hbw5) HO5.out (Nat.le_trans hbs hbw5.le)).mono ?_
          rintro e w6 ⟨C6, m6, c6, z6, rfl, hb6, hno6, hso6⟩
          have HOR6 := Lib.hid (hb6.own HOR5.out)
          have hbw6 := hbw5.trans hb6
          have HSO := Lib.hid hso6
          have HNO := Lib.hid hno6
          clear hb6 HOR5 HO5 HIH hso6 hno6
          cases R with
          | none =>
            have hz6 := HNO.out rfl
            subst hz6
            have HD := Lib.hid (HDN.out (by rw [HN.out]; rfl))
            go_wp2_with fail
            go_ret2
            exact ⟨Cb, mb, cb, -1, rfl, hbw6, fun _ => rfl, fun r hr => by rw [HE.out, HD.out] at hr; cases hr⟩
          | some r =>
            obtain ⟨rb, rz⟩ := r
            obtain ⟨hr0, hr1, _, _⟩ := HWH.out _ rfl
            obtain ⟨hz6, hor6⟩ := HSO.out _ rfl
            subst hz6
            simp only at hr0 hr1 hor6
            have HOR7 := Lib.hid hor6
            clear hor6 HSO HNO HWH HDN
            have HN1 : Hid (contDK l f o (k + 1) = some (mxo (sb, sz) (rb, z6))) := HN.out
            by_cases h1 : sz < z6
            · have HN2 := Lib.hid (HN1.out.trans (congrArg some (mxo_yes (s := (sb, sz)) (r := (rb, z6)) h1)))
              go_wp2_with fail
              first | exact ⟨⟨k + 1, C6, m6, c6, (rb, z6), by omega, by omega, by go_num, rfl, rfl, hbw6, HN2, HOR7⟩, by simp [intOf]; omega⟩ | (refine ⟨?_, by simp [intOf]; omega⟩; (repeat apply Exists.intro); exact ⟨⟨k + 1, C6, m6, c6, (rb, z6), by omega, by omega, by go_num, rfl, rfl, hbw6, HN2, HOR7⟩, rfl⟩)
            · have HN2 := Lib.hid (HN1.out.trans (congrArg some (mxo_no (s := (sb, sz)) (r := (rb, z6)) h1)))
              go_wp2_with fail
              first | exact ⟨⟨k + 1, Cb, mb, cb, (sb, sz), by omega, by omega, by go_num, rfl, rfl, hbw6, HN2, HOR6⟩, by simp [intOf]; omega⟩ | (refine ⟨?_, by simp [intOf]; omega⟩; (repeat apply Exists.intro); exact ⟨⟨k + 1, Cb, mb, cb, (sb, sz), by omega, by omega, by go_num, rfl, rfl, hbw6, HN2, HOR6⟩, rfl⟩)
        · have hg : goes o k = false := by rw [hgo, hhas]; rfl
          have HN := Lib.hid ((contDK_no (l := l) (f := f) hg).trans HK.out)
          rw [hhas] at H1
          go_wp2_with fail
          refine H1.out.mono ?_
          rintro e w2 ⟨rfl, hbn⟩
          have HOR2 := Lib.hid (hbn.own HOR.out)
          go_wp2_with fail
          first | exact ⟨⟨k + 1, Cb, mb, cb, (sb, sz), by omega, by omega, by go_num, rfl, rfl, hb.trans hbn, HN, HOR2⟩, by simp [intOf]; omega⟩ | (refine ⟨?_, by simp [intOf]; omega⟩; (repeat apply Exists.intro); exact ⟨⟨k + 1, Cb, mb, cb, (sb, sz), by omega, by omega, by go_num, rfl, rfl, hb.trans hbn, HN, HOR2⟩, rfl⟩)
      · have e : k = n := by omega
        subst e
        go_wp2_with fail
        go_ret2
        refine ⟨Cb, mb, cb, sz, rfl, hb, fun hr => ?_, fun r hr => ?_⟩
        · rw [HE.out, HK.out] at hr; cases hr
        · rw [HE.out, HK.out] at hr
          have e := Option.some.inj hr
          subst e
          exact ⟨rfl, HOR.out⟩
set_option maxHeartbeats 2000000 in
theorem specBestDrain_any (A : Option Addr) (n c : Nat) (l : List Pool) (w : World) (h : Sl Pool.cs 3 w A n l) :
    Calls Try.prog 48 #[.slice A n c] w (NewRes ci 1 3 (bestDR l).1.1 (fun v => .tuple #[v, .int .i64 (bestDR l).1.2, .bool (bestDR l).2]) w) := by
  have HL := Lib.hid h.1
  have H1 := Lib.hid (l11List_any A n c l w h)
  cases h1 : poolsOk l
  · have HR := Lib.hid (show bestDR l = (([], 0), false) by rw [bestDR, if_neg (by simp [h1])])
    go_enter Try.func48, Try.ntmps48
    go_wp2_with fail
    refine H1.out.mono ?_
    rintro e w1 ⟨rfl, hb⟩
    simp only [h1]
    go_wp2_with fail
    go_ret3
    rw [HR.out]
    exact NewRes.empty (F := fun v => .tuple #[v, _, _]) hb
  have h6 := len_ok h1
  rw [HL.out] at h6
  have HR := Lib.hid (show bestDR l = wrapD (contD l (n - 1) []) by rw [bestDR, if_pos h1, HL.out])
  have HW := Lib.hid (fun r (hr : contD l (n - 1) [] = some r) => contD_whole (n - 1) [] r (by rw [HL.out]; simp; omega) (order_nil _) hr)
  have H3 := Lib.hid (fun B d W h ho => l11Best_any A n c l h1 HL.out (n - 1) B 0 d w.heap.size [] W h ho)
  generalize contD l (n - 1) [] = R at *
  go_enter Try.func48, Try.ntmps48
  go_wp2_with fail
  refine H1.out.mono ?_
  rintro e w1 ⟨rfl, hb⟩
  simp only [h1]
  go_wp2_with fail
  have HM := Lib.hid (made_at ci 1 w1 3 w.heap.size _ rfl hb.le)
  have hba := hb.alloc (.cells #[] 3)
  refine (H3.out _ _ _ (h.bl hba) HM.out hba.le rfl (by omega) (order_nil n)).mono ?_
  rintro e w5 ⟨C, m5, c5, z5, rfl, hb5, hno5, hso5⟩
  have HSO := Lib.hid hso5
  have HNO := Lib.hid hno5
  clear hso5 hno5
  cases R with
  | none =>
    have hz := HNO.out rfl
    subst hz
    go_wp2_with fail
    go_ret3
    rw [HR.out]
    exact NewRes.empty (F := fun v => .tuple #[v, _, _]) (hba.trans hb5)
  | some r =>
    obtain ⟨rb, rz⟩ := r
    obtain ⟨hz6, hor6⟩ := HSO.out _ rfl
    obtain ⟨_, hlen, hr0, hr1, _, _⟩ := HW.out _ rfl
    subst hz6
    simp only at hr0 hr1 hor6 hlen
    have hm5 : m5 = rb.length := by have h9 := hor6.1; rw [flat_len _ 1 ci_len] at h9; omega
    have HM5 := Lib.hid hm5.symm
    have HLE : Hid (m5 ≤ 1048576) := by show _ ≤ _; rw [HL.out] at hlen; omega
    have HOR7 := Lib.hid hor6
    clear hor6 HSO HNO HW hlen hm5
    go_wp2_with fail
    go_ret3
    rw [HR.out]
    exact NewRes.of_own (F := fun v => .tuple #[v, _, _]) HOR7.out HM5.out HLE.out (hba.trans hb5)
end Go.Proofs.Yteejalanjeeecaa
