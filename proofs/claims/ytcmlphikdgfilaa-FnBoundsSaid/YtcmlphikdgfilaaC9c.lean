/- The contracts of QueueBound, LowerBound, GapOf and IsProven in both programs. -/
import Derived.Test.YtcmlphikdgfilaaQ9b
import Derived.Test.YtcmlphikdgfilaaC9a
namespace Go.Proofs.Ytcmlphikdgfilaa
open Go.RowKit
set_option maxHeartbeats 1000000 in
theorem l9Queue_any (A : Option Addr) (n c : Nat) (l : List Arrival) (mi : Int) (w : World) (h : Sl Arrival.cs 4 w A n l) (hok : arrOk l = true) (m0 : 1 ≤ mi) (m1 : mi ≤ 60) :
    Calls Try.prog 52 #[.slice A n c, .int .i64 mi] w fun e w' => e = .returned (.int .i64 (queueZ l mi)) ∧ Bl w w' := by
  have bn := h.le
  have HL := Lib.hid h.1
  have h6 : n ≤ 6 := by have := arr_len hok; rw [h.1] at this; exact this
  have H1 := Lib.hid (l8FirstCome_any A n c l w h h6)
  have HQ : Hid (∀ k, k ≤ n → Qk k (runQ l mi ((fcK l n).take k))) := by
    show ∀ k, k ≤ n → Qk k (runQ l mi ((fcK l n).take k))
    intro k hk
    have := queue_qk hok m0 m1 k (by rw [HL.out]; exact hk)
    rwa [HL.out] at this
  have HZ : Hid (queueZ l mi = (runQ l mi ((fcK l n).take n)).least * (runQ l mi ((fcK l n).take n)).sum) := by show _ = _; rw [queueZ, HL.out, List.take_of_length_le (by rw [fcK_len]; exact Nat.le_refl _)]
  have HV := Lib.hid (fun i a (ha : l[i]? = some a) => arr_bd hok ha)
  have HR := Lib.hid (fc_rng l n)
  have HLN := Lib.hid (fcK_len l n)
  generalize fcK l n = out at *
  clear hok
  go_enter Try.func52, Try.ntmps52
  go_wp2_with fail
  refine H1.out.mono ?_
  rintro e w1 ⟨C, m4, c4, rfl, ho4, hl4, hm4, hb⟩
  have hts := Sl.of_own ci_len ho4 hl4 (by omega)
  clear ho4 H1
  have hm4' : m4 = n := by rw [← hl4]; exact HLN.out
  subst hm4'
  clear hl4 HLN
  have HB := Lib.hid hb
  go_wp2_with fail
  go_loopw [6, 7, 8, 9] (fun u v z i wr => ∃ k : Nat, k ≤ m4 ∧ i = .int .i64 k ∧ u = .int .i64 (runQ l mi (out.take k)).free ∧ v = .int .i64 (runQ l mi (out.take k)).sum ∧ z = .int .i64 (runQ l mi (out.take k)).least ∧ Bl w1 wr) (fun _ _ _ i _ => m4 - (intOf i).toNat)
  case atStart => exact ⟨0, Nat.zero_le _, rfl, rfl, rfl, rfl, Bl.refl _⟩
  case round =>
    obtain ⟨k, hk, rfl, rfl, rfl, rfl, hbx⟩ := hrel
    have hb2 := hb.trans hbx
    obtain ⟨f0, f1, s0, s1, l0, l1⟩ := HQ.out k hk
    by_cases hlt : k < m4
    · obtain ⟨b1, o1, x, rfl, ex, c1⟩ := hts.int hlt
      have q1 := c1 _ hbx
      obtain ⟨hx0, hx1⟩ := HR.out k x ex
      obtain ⟨j, rfl⟩ := Int.eq_ofNat_of_zero_le hx0
      have hj : j < m4 := by omega
      obtain ⟨b2, o2, p, rfl, ep, p1, p2, p3, p4⟩ := h.Arrival hj
      obtain ⟨_, ⟨mv0, mv1⟩, mv2, mv3⟩ := HV.out j p ep
      have HN := Lib.hid (runQ_one (mi := mi) ex ep)
      generalize runQ l mi (out.take k) = s at *
      have g1 := p1 _ hb2
      have g2 := p2 _ hb2
      have g3 := p3 _ hb2
      have g4 := p4 _ hb2
      have ht := show max s.free p.Minute ≤ 20000 by omega
      have ht0 := show 0 ≤ max s.free p.Minute by omega
      clear ex ep c1 p1 p2 p3 p4
      go_wp2_with fail
      refine (l1Most_any _ _ _).mono ?_
      rintro e w3 ⟨rfl, rfl⟩
      go_wp2_with fail
      refine (l1Least_any _ _ _).mono ?_
      rintro e w4 ⟨rfl, rfl⟩
      go_wp2_with fail
      first | exact ⟨⟨k + 1, by omega, by go_num, by rw [HN.out]; rfl, by rw [HN.out]; simp only [stepQ]; congr 1; omega, by rw [HN.out]; rfl, hbx.alloc _⟩, by simp [intOf]; omega⟩ | (refine ⟨?_, by simp [intOf]; omega⟩; (repeat apply Exists.intro); exact ⟨⟨k + 1, by omega, by go_num, by rw [HN.out]; rfl, by rw [HN.out]; simp only [stepQ]; congr 1; omega, by rw [HN.out]; rfl, hbx.alloc _⟩, rfl⟩)
    · have e : k = m4 := by omega
      subst e
      have hmul := mul_abs (x := (runQ l mi (out.take k)).least) (y := (runQ l mi (out.take k)).sum) l0 l1 (by omega) (by omega)
      obtain ⟨mu0, mu1⟩ := hmul
      generalize runQ l mi (out.take k) = s at *
      go_wp2_with fail
      go_ret
      exact ⟨by rw [HZ.out]; rfl, hb2⟩
set_option maxHeartbeats 1000000 in
theorem queueBound_any (A : Option Addr) (n c : Nat) (l : List Arrival) (mi : Int) (w : World) (h : Sl Arrival.cs 4 w A n l) (hok : arrOk l = true) (m0 : 1 ≤ mi) (m1 : mi ≤ 60) :
    Calls Try.prog 48 #[.slice A n c, .int .i64 mi] w fun e w' => e = .returned (.int .i64 (queueZ l mi)) ∧ Bl w w' := by
  have bn := h.le
  have HL := Lib.hid h.1
  have h6 : n ≤ 6 := by have := arr_len hok; rw [h.1] at this; exact this
  have H1 := Lib.hid (firstCome_any A n c l w h h6)
  have HQ : Hid (∀ k, k ≤ n → Qk k (runQ l mi ((fcK l n).take k))) := by
    show ∀ k, k ≤ n → Qk k (runQ l mi ((fcK l n).take k))
    intro k hk
    have := queue_qk hok m0 m1 k (by rw [HL.out]; exact hk)
    rwa [HL.out] at this
  have HZ : Hid (queueZ l mi = (runQ l mi ((fcK l n).take n)).least * (runQ l mi ((fcK l n).take n)).sum) := by show _ = _; rw [queueZ, HL.out, List.take_of_length_le (by rw [fcK_len]; exact Nat.le_refl _)]
  have HV := Lib.hid (fun i a (ha : l[i]? = some a) => arr_bd hok ha)
  have HR := Lib.hid (fc_rng l n)
  have HLN := Lib.hid (fcK_len l n)
  generalize fcK l n = out at *
  clear hok
  go_enter Try.func48, Try.ntmps48
  go_wp2_with fail
  refine H1.out.mono ?_
  rintro e w1 ⟨C, m4, c4, rfl, ho4, hl4, hm4, hb⟩
  have hts := Sl.of_own ci_len ho4 hl4 (by omega)
  clear ho4 H1
  have hm4' : m4 = n := by rw [← hl4]; exact HLN.out
  subst hm4'
  clear hl4 HLN
  go_wp2_with fail
  go_loopw [5, 6, 7, 14] (fun v u z i wr => ∃ k : Nat, k ≤ m4 ∧ i = .int .i64 k ∧ u = .int .i64 (runQ l mi (out.take k)).free ∧ v = .int .i64 (runQ l mi (out.take k)).sum ∧ z = .int .i64 (runQ l mi (out.take k)).least ∧ Bl w1 wr) (fun _ _ _ i _ => m4 - (intOf i).toNat)
  case atStart => exact ⟨0, Nat.zero_le _, rfl, rfl, rfl, rfl, Bl.refl _⟩
  case round =>
    obtain ⟨k, hk, rfl, rfl, rfl, rfl, hbx⟩ := hrel
    have hb2 := hb.trans hbx
    obtain ⟨f0, f1, s0, s1, l0, l1⟩ := HQ.out k hk
    by_cases hlt : k < m4
    · obtain ⟨b1, o1, x, rfl, ex, c1⟩ := hts.int hlt
      have q1 := c1 _ hbx
      obtain ⟨hx0, hx1⟩ := HR.out k x ex
      obtain ⟨j, rfl⟩ := Int.eq_ofNat_of_zero_le hx0
      have hj : j < m4 := by omega
      obtain ⟨b2, o2, p, rfl, ep, p1, p2, p3, p4⟩ := h.Arrival hj
      obtain ⟨_, ⟨mv0, mv1⟩, mv2, mv3⟩ := HV.out j p ep
      have HN := Lib.hid (runQ_one (mi := mi) ex ep)
      generalize runQ l mi (out.take k) = s at *
      have g1 := p1 _ hb2
      have g2 := p2 _ hb2
      have g3 := p3 _ hb2
      have g4 := p4 _ hb2
      have ht := show max s.free p.Minute ≤ 20000 by omega
      have ht0 := show 0 ≤ max s.free p.Minute by omega
      have ht1 := show p.Minute ≤ max s.free p.Minute by omega
      clear ex ep c1 p1 p2 p3 p4
      go_wp2_with fail
      simp only [ite_min, ite_max]
      go_wp2_with fail
      first | exact ⟨⟨k + 1, by omega, by go_num, by rw [HN.out]; rfl, by rw [HN.out]; rfl, by rw [HN.out]; rfl, hbx⟩, by simp [intOf]; omega⟩ | (refine ⟨?_, by simp [intOf]; omega⟩; (repeat apply Exists.intro); exact ⟨⟨k + 1, by omega, by go_num, by rw [HN.out]; rfl, by rw [HN.out]; rfl, by rw [HN.out]; rfl, hbx⟩, rfl⟩)
    · have e : k = m4 := by omega
      subst e
      have hmul := mul_abs (x := (runQ l mi (out.take k)).least) (y := (runQ l mi (out.take k)).sum) l0 l1 (by omega) (by omega)
      obtain ⟨mu0, mu1⟩ := hmul
      generalize runQ l mi (out.take k) = s at *
      go_wp2_with fail
      go_ret
      exact ⟨by rw [HZ.out]; rfl, hb2⟩
end Go.Proofs.Ytcmlphikdgfilaa
