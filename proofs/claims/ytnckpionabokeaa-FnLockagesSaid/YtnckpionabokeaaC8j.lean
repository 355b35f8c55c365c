/- The contracts of the best order in the reference, by recursion. -/
import Derived.Test.YtnckpionabokeaaQ8e
import Derived.Test.YtnckpionabokeaaC8d
import Derived.Test.YtnckpionabokeaaBaseX
namespace Go.Proofs.Ytnckpionabokeaa
open Go.RowKit
/-- What has been found behind the first k ways to go on. -/
def contK (l : List Arrival) (high : Bool) (mi : Int) (f : Nat) (o : List Int) (k : Nat) : List Int × Int := foldN (fun i s => if mayB l o i = true then mrg s (contB l high mi f (o ++ [(i : Int)])) else s) ([], -1) k
theorem contK_no {l : List Arrival} {high : Bool} {mi : Int} {f : Nat} {o : List Int} {k : Nat} (h : mayB l o k = false) : contK l high mi f o (k + 1) = contK l high mi f o k := by
  rw [contK, foldN_one, h]; rfl
theorem contK_yes {l : List Arrival} {high : Bool} {mi : Int} {f : Nat} {o : List Int} {k : Nat} (h : mayB l o k = true) : contK l high mi f o (k + 1) = mrg (contK l high mi f o k) (contB l high mi f (o ++ [(k : Int)])) := by
  rw [contK, foldN_one, if_pos h]; rfl
theorem contK_end {l : List Arrival} {high : Bool} {mi : Int} {f : Nat} {o : List Int} {n : Nat} (h : l.length = n) : contB l high mi (f + 1) o = contK l high mi f o n := by
  rw [contB, contK, h]
/-- What a call that continues an order hands back. -/
def BestRes (bs n : Nat) (R : List Int × Int) (w : World) (e : Ending) (w' : World) : Prop := ∃ C c2, e = .returned (.tuple #[.slice C n c2, .int .i64 R.2]) ∧ w'.ownsRow bs 3 1 (.slice C n c2) n (R.1.flatMap ci) ∧ Bl w w'
set_option maxHeartbeats 4000000 in
theorem l8Best_any (A : Option Addr) (n c : Nat) (l : List Arrival) (high : Bool) (mi : Int) (hok : arrOk l = true) (hln : l.length = n) (m0 : 1 ≤ mi) (m1 : mi ≤ 60) :
    ∀ (f : Nat) (B : Option Addr) (m d bs : Nat) (o : List Int) (w : World), Sl Arrival.cs 4 w A n l → w.ownsRow bs 3 1 (.slice B m d) m (o.flatMap ci) → bs ≤ w.heap.size → o.length = m → m + f = n → valO l o = true →
    Calls Try.prog 60 #[.slice A n c, .bool high, .int .i64 mi, .slice B m d] w (BestRes bs n (contB l high mi f o) w) := by
  have hl6 := arr_len hok
  have HLN := Lib.hid hln
  have HOK := Lib.hid hok
  have HAV := Lib.hid (fun (i : Nat) (a : Arrival) (ha : l[i]? = some a) => (show 0 ≤ a.Minute ∧ a.Minute ≤ 9999 ∧ 0 ≤ a.Weight ∧ a.Weight ≤ 9 by have := arr_bd hok ha; omega))
  rw [hln] at hl6
  clear hln hok
  intro f
  induction f with
  | zero =>
    intro B m d bs o w h ho hbs hlo hf hv
    obtain rfl : m = n := by omega
    have hS := Sl.of_own ci_len ho hlo (by omega)
    have hord : implOrd l o = true := by rw [ord_val HOK.out (by rw [hlo, HLN.out])]; exact hv
    have hr := (ord_parts hord).2.2
    rw [HLN.out] at hr
    have HO := Lib.hid ho
    have H1 := Lib.hid (l8Delay_any A m c l high mi B m d o w h hS hr HAV.out m0 m1 (by omega))
    clear ho hf hlo hv hr hord
    go_enter Try.func60, Try.ntmps60
    go_wp2_with fail
    refine H1.out.mono ?_
    rintro e w1 ⟨rfl, hb⟩
    go_wp2_with fail
    go_ret2
    exact ⟨B, d, rfl, hb.own HO.out, hb⟩
  | succ f ih =>
    intro B m d bs o w h ho hbs hlo hf hv
    have hne : ((m : Int) == (n : Int)) = false := by simp; omega
    have hm6 : m ≤ 6 := by omega
    have hS := Sl.of_own ci_len ho hlo (by omega)
    have HV := Lib.hid hv
    have HLO := Lib.hid hlo
    have HF := Lib.hid hf
    have HE := Lib.hid (contK_end (high := high) (mi := mi) (f := f) (o := o) HLN.out)
    have HO := Lib.hid (cont_ord (high := high) HOK.out m0 m1 (f + 1) o (by rw [hlo, HLN.out]; omega) hv)
    have IH := Lib.hid ih
    have hmade := made_at ci 1 w 3 bs _ rfl hbs
    have hb := (Bl.refl w).alloc (.cells #[] 3)
    clear ho ih hf hlo hv
    go_enter Try.func60, Try.ntmps60
    go_wp2_with fail
    go_loopw [10, 11, 12] (fun b z i wr => ∃ (k : Nat) (Cb : Option Addr) (mb cb : Nat), k ≤ n ∧ i = .int .i64 k ∧ b = .slice Cb mb cb ∧ z = .int .i64 (contK l high mi f o k).2 ∧ Bl w wr ∧ wr.ownsRow bs 3 1 (.slice Cb mb cb) mb ((contK l high mi f o k).1.flatMap ci)) (fun _ _ i _ => n - (intOf i).toNat)
    case atStart => exact ⟨0, _, 0, 0, Nat.zero_le _, rfl, rfl, rfl, hb, hmade⟩
    case round =>
      clear hb hmade
      obtain ⟨k, Cb, mb, cb, hk, rfl, rfl, rfl, hb, hor⟩ := hrel
      have HOR := Lib.hid hor
      clear hor
      by_cases hlt : k < n
      · have H1 : Hid (Calls Try.prog 75 #[.slice A n c, .slice B m d, .int .i64 k] wr fun e w' => e = .returned (.bool (mayB l o k)) ∧ Bl wr w') := l8Next_any A n c l B m d o k wr (h.bl hb) (hS.bl hb) hlt
        cases hmay : mayB l o k
        · have HN := Lib.hid (contK_no (high := high) (mi := mi) (f := f) hmay)
          generalize contK l high mi f o k = s at *
          rw [hmay] at H1
          go_wp2_with fail
          refine H1.out.mono ?_
          rintro e w2 ⟨rfl, hbn⟩
          have HOR2 := Lib.hid (hbn.own HOR.out)
          go_wp2_with fail
          first | exact ⟨⟨k + 1, Cb, mb, cb, by omega, by go_num, rfl, by rw [HN.out], hb.trans hbn, by rw [HN.out]; exact HOR2.out⟩, by simp [intOf]; omega⟩ | (refine ⟨?_, by simp [intOf]; omega⟩; (repeat apply Exists.intro); exact ⟨⟨k + 1, Cb, mb, cb, by omega, by go_num, rfl, by rw [HN.out], hb.trans hbn, by rw [HN.out]; exact HOR2.out⟩, rfl⟩)
        · have HN := Lib.hid (contK_yes (high := high) (mi := mi) (f := f) hmay)
          have hvn : valO l (o ++ [(k : Int)]) = true := by rw [val_snoc o k (by rw [HLN.out]; exact hlt), HV.out, hmay]; rfl
          have HVN := Lib.hid hvn
          have hpos := cont_pos (high := high) HOK.out m0 m1 f (o ++ [(k : Int)]) (by rw [snoc_len, HLO.out, HLN.out]; have := HF.out; omega) hvn
          have HIH := Lib.hid (fun C5 d5 W hW ho hbs => IH.out C5 (m + 1) d5 bs (o ++ [(k : Int)]) W hW ho hbs (by rw [snoc_len, HLO.out]) (by have := HF.out; omega) HVN.out)
          have H2 := Lib.hid (fun W hW => l1Own_any B m d o W hW (by omega))
          rw [hmay] at H1
          clear hvn IH
          generalize contK l high mi f o k = s at *
          generalize contB l high mi f (o ++ [(k : Int)]) = R at *
          obtain ⟨sb, sz⟩ := s
          obtain ⟨rb, rz⟩ := R
          go_wp2_with fail
          refine H1.out.mono ?_
          rintro e w2 ⟨rfl, hbn⟩
          have hb2 := hb.trans hbn
          have HOR2 := Lib.hid (hbn.own HOR.out)
          clear hbn HOR
          go_wp2_with fail
          refine (H2.out _ (hS.bl hb2)).mono ?_
          rintro e w3 ⟨C3, m3, d3, rfl, ho3, hl3, hm3, hbn⟩
          obtain rfl : m3 = m := by rw [← hl3]; exact HLO.out
          have hbs3 := hbn.le
          clear hl3
          obtain ⟨i0, hi0, hz0, hz1, hz2⟩ := info_parts infoInt
          go_wp2_with (at_builtin; refine wpList_append_one _ rfl _ _ _ rfl _ 3 i0 _ 1 8 Try.underlying31 hi0 hz0 hz1 hz2 rfl (by omega) ci_len ci_one _ m3 o rfl (k : Int) _ rfl (by first | rfl | simp) _ rfl ho3 hbs3 (by unfold maxLen; omega) (by omega) ?_)
          clear hi0 hz0 hz1 hz2
          intro C5 d5 w5 ho5 hg5
          have hb5 := Bl.row hbn (Nat.le_refl _) ho3 hg5
          have HO5 := Lib.hid (show w5.ownsRow bs 3 1 (.slice C5 (m3 + 1) d5) (m3 + 1) ((o ++ [(k : Int)]).flatMap ci) by rw [ci_snoc]; exact own_mono ho5 (Nat.le_trans hbs hb2.le))
          have HOR5 := Lib.hid (hb5.own HOR2.out)
          have hbw5 := hb2.trans hb5
          clear hbn ho3 ho5 hg5 hb5 HOR2
          go_wp2_with fail
          refine (HIH.out C5 d5 w5 (h.bl hbw5) HO5.out (Nat.le_trans hbs hbw5.le)).mono ?_
          rintro e w6 ⟨C6, c6, rfl, ho6, hb6⟩
          have HO6 := Lib.hid ho6
          have HOR6 := Lib.hid (hb6.own HOR5.out)
          have hbw6 := hbw5.trans hb6
          clear ho6 hb6 HOR5 HO5 HIH
          by_cases h1 : sz < 0
          · have HN2 := Lib.hid (HN.out.trans (mrg_yes hpos (.inl h1)))
            go_wp2_with fail
            first | exact ⟨⟨k + 1, C6, n, c6, by omega, by go_num, rfl, by rw [HN2.out], hbw6, by rw [HN2.out]; exact HO6.out⟩, by simp [intOf]; omega⟩ | (refine ⟨?_, by simp [intOf]; omega⟩; (repeat apply Exists.intro); exact ⟨⟨k + 1, C6, n, c6, by omega, by go_num, rfl, by rw [HN2.out], hbw6, by rw [HN2.out]; exact HO6.out⟩, rfl⟩)
          by_cases h2 : rz < sz
          · have HN2 := Lib.hid (HN.out.trans (mrg_yes hpos (.inr h2)))
            go_wp2_with fail
            first | exact ⟨⟨k + 1, C6, n, c6, by omega, by go_num, rfl, by rw [HN2.out], hbw6, by rw [HN2.out]; exact HO6.out⟩, by simp [intOf]; omega⟩ | (refine ⟨?_, by simp [intOf]; omega⟩; (repeat apply Exists.intro); exact ⟨⟨k + 1, C6, n, c6, by omega, by go_num, rfl, by rw [HN2.out], hbw6, by rw [HN2.out]; exact HO6.out⟩, rfl⟩)
          · have HN2 := Lib.hid (HN.out.trans (mrg_no (by simp only; omega)))
            go_wp2_with fail
            first | exact ⟨⟨k + 1, Cb, mb, cb, by omega, by go_num, rfl, by rw [HN2.out], hbw6, by rw [HN2.out]; exact HOR6.out⟩, by simp [intOf]; omega⟩ | (refine ⟨?_, by simp [intOf]; omega⟩; (repeat apply Exists.intro); exact ⟨⟨k + 1, Cb, mb, cb, by omega, by go_num, rfl, by rw [HN2.out], hbw6, by rw [HN2.out]; exact HOR6.out⟩, rfl⟩)
      · have e : k = n := by omega
        subst e
        have hmb : mb = k := by
          have h9 := HOR.out.1
          rw [flat_len _ 1 ci_len, ← HE.out] at h9
          have h8 := (ord_parts HO.out.1).2.1
          rw [HLN.out] at h8
          omega
        subst hmb
        go_wp2_with fail
        go_ret2
        exact ⟨Cb, cb, by rw [HE.out]; rfl, by rw [HE.out]; exact HOR.out, hb⟩
set_option maxHeartbeats 2000000 in
theorem specBestLockages_any (A : Option Addr) (n c : Nat) (l : List Arrival) (high : Bool) (mi : Int) (w : World) (h : Sl Arrival.cs 4 w A n l) :
    Calls Try.prog 24 #[.slice A n c, .bool high, .int .i64 mi] w (NewRes ci 1 3 (bestR l high mi).1.1 (fun v => .tuple #[v, .int .i64 (bestR l high mi).1.2, .bool (bestR l high mi).2]) w) := by
  have HL := Lib.hid h.1
  have H1 := Lib.hid (l8Good_any A n c l w h)
  have H2m := Lib.hid (fun w => same_bl (l8Minutes_any mi w))
  cases h1 : arrOk l
  · have HR := Lib.hid (show bestR l high mi = (([], 0), false) by rw [bestR, if_neg (by simp [h1])])
    go_enter Try.func24, Try.ntmps24
    go_wp2_with fail
    refine H1.out.mono ?_
    rintro e w1 ⟨rfl, hb⟩
    simp only [h1]
    go_wp2_with fail
    go_ret3
    rw [HR.out]
    exact NewRes.empty (F := fun v => .tuple #[v, _, _]) hb
  cases h2 : inB mi 1 60
  · have HR := Lib.hid (show bestR l high mi = (([], 0), false) by rw [bestR, if_neg (by simp [h2])])
    go_enter Try.func24, Try.ntmps24
    go_wp2_with fail
    refine H1.out.mono ?_
    rintro e w1 ⟨rfl, hb⟩
    simp only [h1]
    go_wp2_with fail
    refine (H2m.out _).mono ?_
    rintro e w' ⟨rfl, hbn⟩
    have hb := hb.trans hbn
    clear hbn
    simp only [h2]
    go_wp2_with fail
    go_ret3
    rw [HR.out]
    exact NewRes.empty (F := fun v => .tuple #[v, _, _]) hb
  obtain ⟨m0, m1⟩ := inB_iff.1 h2
  have HR := Lib.hid (show bestR l high mi = (contB l high mi n [], true) by rw [bestR, if_pos ⟨h1, h2⟩, HL.out])
  have HLEN := Lib.hid (show (contB l high mi n []).1.length = n by have := (ord_parts (best_facts (high := high) h1 m0 m1).1).2.1; rwa [HL.out] at this)
  have h6 := arr_len h1
  rw [HL.out] at h6
  have H3 := Lib.hid (fun B d W h ho => l8Best_any A n c l high mi h1 HL.out m0 m1 n B 0 d w.heap.size [] W h ho)
  generalize contB l high mi n [] = R at *
  go_enter Try.func24, Try.ntmps24
  go_wp2_with fail
  refine H1.out.mono ?_
  rintro e w1 ⟨rfl, hb⟩
  simp only [h1]
  go_wp2_with fail
  refine (H2m.out _).mono ?_
  rintro e w' ⟨rfl, hbn⟩
  have hb := hb.trans hbn
  clear hbn
  simp only [h2]
  go_wp2_with fail
  have HM := Lib.hid (made_at ci 1 w' 3 w.heap.size _ rfl hb.le)
  have hba := hb.alloc (.cells #[] 3)
  refine (H3.out _ _ _ (h.bl hba) HM.out hba.le rfl (by omega) (val_nil l)).mono ?_
  rintro e w5 ⟨C, c5, rfl, ho5, hb5⟩
  go_wp2_with fail
  go_ret3
  rw [HR.out]
  exact NewRes.of_own (F := fun v => .tuple #[v, _, _]) ho5 HLEN.out (by omega) (hba.trans hb5)
end Go.Proofs.Ytnckpionabokeaa
