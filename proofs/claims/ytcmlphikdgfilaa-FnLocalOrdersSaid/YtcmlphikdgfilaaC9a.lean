/- The contracts of AloneBound and SwapGain in both programs. -/
import Derived.Test.YtcmlphikdgfilaaQ9
import Derived.RegionTactic
import Derived.Deep.RegionHeld3
namespace Go.Proofs.Ytcmlphikdgfilaa
open Go.RowKit
theorem Sl.one {α : Type} {f : α → List Value} {s n i b o : Nat} {w : World} {l : List α} {p : α} (h : Sl f s w (some ⟨b, o, none⟩) n l) (hi : l[i]? = some p) : Sl f s w (some ⟨b, o + i * s, none⟩) 1 [p] := by
  have hl : i < l.length := (List.getElem?_eq_some_iff.1 hi).1
  obtain ⟨b', o', e, hc⟩ := h.2.2 (by rw [← h.1]; omega)
  injection e with e
  injection e with e1 e2
  subst e1 e2
  refine ⟨rfl, by decide, fun _ => ⟨_, _, rfl, fun j x hj k u hu => ?_⟩⟩
  match j, hj with
  | 0, hj =>
    have := Option.some.inj hj
    subst this
    rw [Nat.zero_mul, Nat.add_zero]
    exact hc i _ hi k u hu
  | j + 1, hj => simp at hj
theorem sl_new {α : Type} (f : α → List Value) (s : Nat) (w : World) (e : TypeId) (y : α) (H : Nat) (hH : w.heap.size = H) : Sl f s (w.alloc (.cells (f y).toArray e)) (some ⟨H, 0, none⟩) 1 [y] := by
  subst hH
  refine ⟨rfl, by decide, fun _ => ⟨_, 0, rfl, fun i x hi j u hu => ?_⟩⟩
  match i, hi with
  | 0, hi =>
    have := Option.some.inj hi
    subst this
    rw [Nat.zero_mul, Nat.zero_add, cell_of_row _ _ j _ e (0, 0) (heap_alloc_new w _)]
    simpa using hu
  | i + 1, hi => simp at hi
theorem slA (w : World) (e : TypeId) (p : Arrival) (H : Nat) (hH : w.heap.size = H) : Sl Arrival.cs 4 (w.alloc (.cells #[.int .i64 p.Id, .bool p.Up, .int .i64 p.Minute, .int .i64 p.Weight] e)) (some ⟨H, 0, none⟩) 1 [p] := sl_new Arrival.cs 4 w e p H hH
theorem slI (w : World) (e : TypeId) (x : Int) (H : Nat) (hH : w.heap.size = H) : Sl ci 1 (w.alloc (.cells #[.int .i64 x] e)) (some ⟨H, 0, none⟩) 1 [x] := sl_new ci 1 w e x H hH
theorem one_rng : ∀ (k : Nat) (x : Int), ([0] : List Int)[k]? = some x → 0 ≤ x ∧ x < (1 : Nat) := by
  intro k x h
  match k, h with
  | 0, h => simp at h; omega
  | k + 1, h => simp at h
theorem one_bd {p : Arrival} (h : 0 ≤ p.Minute ∧ p.Minute ≤ 9999 ∧ 0 ≤ p.Weight ∧ p.Weight ≤ 9) : ∀ (i : Nat) (a : Arrival), [p][i]? = some a → 0 ≤ a.Minute ∧ a.Minute ≤ 9999 ∧ 0 ≤ a.Weight ∧ a.Weight ≤ 9 := by
  intro i a ha
  match i, ha with
  | 0, ha => have := Option.some.inj ha; subst this; exact h
  | i + 1, ha => simp at ha
set_option maxHeartbeats 400000 in
theorem l9Asked_any (A : Option Addr) (n c : Nat) (l : List Arrival) (mi : Int) (w : World) (h : Sl Arrival.cs 4 w A n l) :
    Calls Try.prog 49 #[.slice A n c, .int .i64 mi] w fun e w' => e = .returned (.bool (arrOk l && inB mi 1 60)) ∧ Bl w w' := by
  have H1 := Lib.hid (l8Good_any A n c l w h)
  have H2 := Lib.hid (fun w => same_bl (l8Minutes_any mi w))
  cases h1 : arrOk l
  · go_enter Try.func49, Try.ntmps49
    go_wp2_with fail
    refine H1.out.mono ?_
    rintro e w1 ⟨rfl, hb⟩
    simp only [h1]
    go_wp2_with fail
    go_ret
    exact ⟨rfl, hb⟩
  · go_enter Try.func49, Try.ntmps49
    go_wp2_with fail
    refine H1.out.mono ?_
    rintro e w1 ⟨rfl, hb⟩
    simp only [h1]
    go_wp2_with fail
    refine (H2.out _).mono ?_
    rintro e w' ⟨rfl, hbn⟩
    have hb := hb.trans hbn
    clear hbn
    go_wp2_with fail
    go_ret
    exact ⟨rfl, hb⟩
set_option maxHeartbeats 1000000 in
theorem l9Alone_any (A : Option Addr) (n c : Nat) (l : List Arrival) (high : Bool) (mi : Int) (w : World) (h : Sl Arrival.cs 4 w A n l) (hok : arrOk l = true) (m0 : 1 ≤ mi) (m1 : mi ≤ 60) (hc : n ≤ c) :
    Calls Try.prog 51 #[.slice A n c, .bool high, .int .i64 mi] w fun e w' => e = .returned (.int .i64 (aloneK l high mi n)) ∧ Bl w w' := by
  have bn := h.le
  have HL := Lib.hid h.1
  have HB := Lib.hid (fun k (hk : k ≤ n) => alone_bd (high := high) hok m0 m1 k (by rw [HL.out]; exact hk))
  have hl6 := arr_len hok
  rw [h.1] at hl6
  go_enter Try.func51, Try.ntmps51
  go_wp2_with fail
  go_loopw [7, 8] (fun u i wr => ∃ k : Nat, k ≤ n ∧ i = .int .i64 k ∧ u = .int .i64 (aloneK l high mi k) ∧ Bl w wr) (fun _ i _ => n - (intOf i).toNat)
  case atStart => exact ⟨0, Nat.zero_le _, rfl, rfl, Bl.refl _⟩
  case round =>
    obtain ⟨k, hk, rfl, rfl, hb⟩ := hrel
    obtain ⟨lo, hi⟩ := HB.out k hk
    by_cases hlt : k < n
    · obtain ⟨b1, o1, p, rfl, ep, p1, p2, p3, p4⟩ := h.Arrival hlt
      have hbd := arr_bd hok ep
      have hpb : 0 ≤ p.Minute ∧ p.Minute ≤ 9999 ∧ 0 ≤ p.Weight ∧ p.Weight ≤ 9 := by omega
      obtain ⟨d0, d1⟩ := delay_one_bd (high := high) m0 m1 hpb.2.2.1 hpb.2.2.2 hpb.1 hpb.2.1
      have HN := Lib.hid (aloneK_one (high := high) (mi := mi) ep)
      have HD := Lib.hid (fun W A' c' B' d' hA hB => l8Delay_any A' 1 c' [p] high mi B' 1 d' [0] W hA hB one_rng (one_bd hpb) m0 m1 (by omega))
      have HO := Lib.hid (h.one ep)
      have g1 := p1 _ hb
      have g2 := p2 _ hb
      have g3 := p3 _ hb
      have g4 := p4 _ hb
      have hci : ¬ c = k := by omega
      have hkc : k + 1 ≤ c := by omega
      clear ep p1 p2 p3 p4 hbd hpb
      generalize delayZ [p] high mi [0] = z at *
      go_wp2_with fail
      refine Calls.mono (HD.out _ _ _ _ _ (HO.out.bl (hb.alloc _)) (slI _ _ 0 _ (by simp))) ?_
      rintro e w2 ⟨rfl, hbn⟩
      have hb2 := (hb.alloc _).trans hbn
      clear hbn
      go_wp2_with fail
      first | exact ⟨⟨k + 1, by omega, by go_num, by rw [HN.out], hb2⟩, by simp [intOf]; omega⟩ | (refine ⟨?_, by simp [intOf]; omega⟩; (repeat apply Exists.intro); exact ⟨⟨k + 1, by omega, by go_num, by rw [HN.out], hb2⟩, rfl⟩)
    · have e : k = n := by omega
      subst e
      go_wp2_with fail
      go_ret
      exact ⟨rfl, hb⟩
set_option maxHeartbeats 1000000 in
theorem aloneBound_any (A : Option Addr) (n c : Nat) (l : List Arrival) (high : Bool) (mi : Int) (w : World) (h : Sl Arrival.cs 4 w A n l) (hok : arrOk l = true) (m0 : 1 ≤ mi) (m1 : mi ≤ 60) (hc : n ≤ c) :
    Calls Try.prog 47 #[.slice A n c, .bool high, .int .i64 mi] w fun e w' => e = .returned (.int .i64 (aloneK l high mi n)) ∧ Bl w w' := by
  have bn := h.le
  have HL := Lib.hid h.1
  have HB := Lib.hid (fun k (hk : k ≤ n) => alone_bd (high := high) hok m0 m1 k (by rw [HL.out]; exact hk))
  have hl6 := arr_len hok
  rw [h.1] at hl6
  go_enter Try.func47, Try.ntmps47
  go_wp2_with fail
  go_loopw [7, 12] (fun u i wr => ∃ k : Nat, k ≤ n ∧ i = .int .i64 k ∧ u = .int .i64 (aloneK l high mi k) ∧ Bl w wr) (fun _ i _ => n - (intOf i).toNat)
  case atStart => exact ⟨0, Nat.zero_le _, rfl, rfl, Bl.refl _⟩
  case round =>
    obtain ⟨k, hk, rfl, rfl, hb⟩ := hrel
    obtain ⟨lo, hi⟩ := HB.out k hk
    by_cases hlt : k < n
    · obtain ⟨b1, o1, p, rfl, ep, p1, p2, p3, p4⟩ := h.Arrival hlt
      have hbd := arr_bd hok ep
      have hpb : 0 ≤ p.Minute ∧ p.Minute ≤ 9999 ∧ 0 ≤ p.Weight ∧ p.Weight ≤ 9 := by omega
      obtain ⟨d0, d1⟩ := delay_one_bd (high := high) m0 m1 hpb.2.2.1 hpb.2.2.2 hpb.1 hpb.2.1
      have HN := Lib.hid (aloneK_one (high := high) (mi := mi) ep)
      have HD := Lib.hid (fun W A' c' B' d' hA hB => lockageDelay_any A' 1 c' [p] high mi B' 1 d' [0] W hA hB one_rng (one_bd hpb) m0 m1 (by omega))
      have HO := Lib.hid (h.one ep)
      have g1 := p1 _ hb
      have g2 := p2 _ hb
      have g3 := p3 _ hb
      have g4 := p4 _ hb
      have hci : ¬ c = k := by omega
      have hkc : k + 1 ≤ c := by omega
      clear ep p1 p2 p3 p4 hbd hpb
      generalize delayZ [p] high mi [0] = z at *
      go_wp2_with fail
      refine Calls.mono (HD.out _ _ _ _ _ ((slA _ _ p _ (by simp)).bl ((Bl.refl _).alloc _)) (slI _ _ 0 _ (by simp))) ?_
      rintro e w2 ⟨rfl, hbn⟩
      have hb2 := (((hb.alloc _).alloc _).alloc _).trans hbn
      clear hbn
      go_wp2_with fail
      first | exact ⟨⟨k + 1, by omega, by go_num, by rw [HN.out], hb2⟩, by simp [intOf]; omega⟩ | (refine ⟨?_, by simp [intOf]; omega⟩; (repeat apply Exists.intro); exact ⟨⟨k + 1, by omega, by go_num, by rw [HN.out], hb2⟩, rfl⟩)
    · have e : k = n := by omega
      subst e
      go_wp2_with fail
      go_ret
      exact ⟨rfl, hb⟩
set_option maxHeartbeats 1000000 in
theorem specAloneBound_any (A : Option Addr) (n c : Nat) (l : List Arrival) (high : Bool) (mi : Int) (w : World) (h : Sl Arrival.cs 4 w A n l) (hc : n ≤ c) :
    Calls Try.prog 18 #[.slice A n c, .bool high, .int .i64 mi] w fun e w' => e = .returned (.tuple #[.int .i64 (aloneR l high mi).1, .bool (aloneR l high mi).2]) ∧ Bl w w' := by
  have HL := Lib.hid h.1
  have H1 := Lib.hid (l9Asked_any A n c l mi w h)
  cases h1 : arrOk l
  · have HR := Lib.hid (show aloneR l high mi = (0, false) by simp [aloneR, h1])
    go_enter Try.func18, Try.ntmps18
    go_wp2_with fail
    refine H1.out.mono ?_
    rintro e w1 ⟨rfl, hb⟩
    simp only [h1, Bool.false_and]
    go_wp2_with fail
    go_ret2
    exact ⟨by rw [HR.out]; rfl, hb⟩
  cases h2 : inB mi 1 60
  · have HR := Lib.hid (show aloneR l high mi = (0, false) by simp [aloneR, h2])
    go_enter Try.func18, Try.ntmps18
    go_wp2_with fail
    refine H1.out.mono ?_
    rintro e w1 ⟨rfl, hb⟩
    simp only [h1, h2, Bool.true_and]
    go_wp2_with fail
    go_ret2
    exact ⟨by rw [HR.out]; rfl, hb⟩
  obtain ⟨m0, m1⟩ := inB_iff.1 h2
  have HR := Lib.hid (show aloneR l high mi = (aloneK l high mi n, true) by simp [aloneR, h1, h2, HL.out])
  have H3 := Lib.hid (fun w h => l9Alone_any A n c l high mi w h h1 m0 m1 hc)
  go_enter Try.func18, Try.ntmps18
  go_wp2_with fail
  refine H1.out.mono ?_
  rintro e w1 ⟨rfl, hb⟩
  simp only [h1, h2, Bool.true_and]
  go_wp2_with fail
  refine (H3.out _ (h.bl hb)).mono ?_
  rintro e w2 ⟨rfl, hbn⟩
  go_wp2_with fail
  go_ret2
  exact ⟨by rw [HR.out]; rfl, hb.trans hbn⟩
set_option maxHeartbeats 1000000 in
theorem implAloneBound_any (A : Option Addr) (n c : Nat) (l : List Arrival) (high : Bool) (mi : Int) (w : World) (h : Sl Arrival.cs 4 w A n l) (hc : n ≤ c) :
    Calls Try.prog 16 #[.slice A n c, .bool high, .int .i64 mi] w fun e w' => e = .returned (.tuple #[.int .i64 (aloneR l high mi).1, .bool (aloneR l high mi).2]) ∧ Bl w w' := by
  have HL := Lib.hid h.1
  have H1 := Lib.hid (areArrivals_any A n c l w h)
  have H2 := Lib.hid (fun w => same_bl (areMinutes_any mi w))
  cases h1 : arrOk l
  · have HR := Lib.hid (show aloneR l high mi = (0, false) by simp [aloneR, h1])
    go_enter Try.func16, Try.ntmps16
    go_wp2_with fail
    refine H1.out.mono ?_
    rintro e w1 ⟨rfl, hb⟩
    simp only [h1]
    go_wp2_with fail
    go_ret2
    exact ⟨by rw [HR.out]; rfl, hb⟩
  cases h2 : inB mi 1 60
  · have HR := Lib.hid (show aloneR l high mi = (0, false) by simp [aloneR, h2])
    go_enter Try.func16, Try.ntmps16
    go_wp2_with fail
    refine H1.out.mono ?_
    rintro e w1 ⟨rfl, hb⟩
    simp only [h1]
    go_wp2_with fail
    refine (H2.out _).mono ?_
    rintro e w' ⟨rfl, hbn⟩
    have hb := hb.trans hbn
    clear hbn
    simp only [h2]
    go_wp2_with fail
    go_ret2
    exact ⟨by rw [HR.out]; rfl, hb⟩
  obtain ⟨m0, m1⟩ := inB_iff.1 h2
  have HR := Lib.hid (show aloneR l high mi = (aloneK l high mi n, true) by simp [aloneR, h1, h2, HL.out])
  have H3 := Lib.hid (fun w h => aloneBound_any A n c l high mi w h h1 m0 m1 hc)
  go_enter Try.func16, Try.ntmps16
  go_wp2_with fail
  refine H1.out.mono ?_
  rintro e w1 ⟨rfl, hb⟩
  simp only [h1]
  go_wp2_with fail
  refine (H2.out _).mono ?_
  rintro e w' ⟨rfl, hbn⟩
  have hb := hb.trans hbn
  clear hbn
  simp only [h2]
  go_wp2_with fail
  refine (H3.out _ (h.bl hb)).mono ?_
  rintro e w2 ⟨rfl, hbn⟩
  go_wp2_with fail
  go_ret2
  exact ⟨by rw [HR.out]; rfl, hb.trans hbn⟩
end Go.Proofs.Ytcmlphikdgfilaa
