/- The contracts of the functions on arrivals: validity. -/
import Derived.Test.YtnckpionabokeaaL1
import Derived.Test.YtnckpionabokeaaBase2
import Derived.Test.YtnckpionabokeaaHArrival
import Derived.Test.YtnckpionabokeaaHInt
namespace Go.Proofs.Ytnckpionabokeaa
open Go.RowKit
def vArr (a : Arrival) : Bool := inB a.Id 1 99 && inB a.Minute 0 9999 && inB a.Weight 1 9
def prevId (l : List Arrival) (k : Nat) : Int := if k = 0 then 0 else match l[k - 1]? with | some p => p.Id | none => 0
def arrAt (l : List Arrival) (k : Nat) (a : Arrival) : Bool := vArr a && !(decide (0 < k) && decide (a.Id ≤ prevId l k))
def arrOk (l : List Arrival) : Bool := decide (l.length ≤ 6) && upTo (arrAt l) l l.length
theorem prev_id {l : List Arrival} {k : Nat} {p : Arrival} (hk : ¬ k = 0) (h : l[k - 1]? = some p) : (decide (0 < k) = true ∧ prevId l k = p.Id) := by
  exact ⟨by simp; omega, by simp [prevId, hk, h]⟩
theorem not_arr {l : List Arrival} {k : Nat} {c : Arrival} (h : l[k]? = some c) (hc : arrAt l k c = false) : arrOk l = false := by
  rw [arrOk, upTo_not h hc, Bool.and_false]
set_option maxHeartbeats 400000 in
theorem isMinute_any (x : Int) (w : World) : Calls Try.prog 49 #[.int .i64 x] w fun e w' => e = .returned (.bool (inB x 0 9999)) ∧ w = w' := by
  go_enter Try.func49, Try.ntmps49
  go_wp2_with fail
  refine (inside_any _ _ _ _).mono ?_
  rintro e w' ⟨rfl, rfl⟩
  go_wp2_with fail
  go_ret
  exact ⟨rfl, rfl⟩
set_option maxHeartbeats 400000 in
theorem l8Minute_any (x : Int) (w : World) : Calls Try.prog 72 #[.int .i64 x] w fun e w' => e = .returned (.bool (inB x 0 9999)) ∧ w = w' := by
  go_enter Try.func72, Try.ntmps72
  go_wp2_with fail
  refine (l1In_any _ _ _ _).mono ?_
  rintro e w' ⟨rfl, rfl⟩
  go_wp2_with fail
  go_ret
  exact ⟨rfl, rfl⟩
set_option maxHeartbeats 2000000 in
theorem areArrivals_any (A : Option Addr) (n c : Nat) (l : List Arrival) (w : World) (h : Sl Arrival.cs 4 w A n l) :
    Calls Try.prog 17 #[.slice A n c] w fun e w' => e = .returned (.bool (arrOk l)) ∧ Bl w w' := by
  have bn := h.le
  have HL := Lib.hid h.1
  go_enter Try.func17, Try.ntmps17
  go_wp2
  go_loopw [7] (fun i wr => ∃ k : Nat, k ≤ n ∧ i = .int .i64 k ∧ Bl w wr ∧ Hid (upTo (arrAt l) l k = true)) (fun i _ => n - (intOf i).toNat)
  case atStart => exact ⟨0, Nat.zero_le _, rfl, Bl.refl _, rfl⟩
  case round =>
    obtain ⟨k, hk, rfl, hb, he⟩ := hrel
    by_cases hlt : k < n
    · obtain ⟨b1, o1, p1, rfl, e1, c11, c12, c13, c14⟩ := h.Arrival hlt
      have E1 := Lib.hid e1; clear e1
      have X0 : ∀ W, Bl (wr.alloc (.cells #[.int .i64 p1.Id, .bool p1.Up, .int .i64 p1.Minute, .int .i64 p1.Weight] 43)) W → W.cell? ⟨wr.heap.size, 0, none⟩ = some (.int .i64 p1.Id) := Bl.all (by go_simp)
      have X2 : ∀ W, Bl (wr.alloc (.cells #[.int .i64 p1.Id, .bool p1.Up, .int .i64 p1.Minute, .int .i64 p1.Weight] 43)) W → W.cell? ⟨wr.heap.size, 2, none⟩ = some (.int .i64 p1.Minute) := Bl.all (by go_simp)
      have X3 : ∀ W, Bl (wr.alloc (.cells #[.int .i64 p1.Id, .bool p1.Up, .int .i64 p1.Minute, .int .i64 p1.Weight] 43)) W → W.cell? ⟨wr.heap.size, 3, none⟩ = some (.int .i64 p1.Weight) := Bl.all (by go_simp)
      have hbx := hb.alloc (.cells #[.int .i64 p1.Id, .bool p1.Up, .int .i64 p1.Minute, .int .i64 p1.Weight] 43)
      have hbr := Bl.refl (wr.alloc (.cells #[.int .i64 p1.Id, .bool p1.Up, .int .i64 p1.Minute, .int .i64 p1.Weight] 43))
      cases h1 : inB p1.Id 1 99
      · have HF := Lib.hid (not_arr E1.out (by simp [arrAt, vArr, h1]))
        go_wp2
        refine region_bl (by kernel_rfl) (by kernel_rfl) hbr ?_
        repeat' (first | go_big_quiet_skip | (go_big_quiet_want; go_simp; (try go_bits); first | (refine ⟨_, fun _ _ => rfl, ?_⟩; go_big_quiet_on) | (apply Exists.intro; (with_reducible refine ⟨fun W hW => ret_bl hW (same_bl (inside_any _ _ _ W)), ?_⟩); go_big_quiet_on) | (apply Exists.intro; (with_reducible refine ⟨fun W hW => ret_bl hW (same_bl (isMinute_any _ W)), ?_⟩); go_big_quiet_on) | (apply Exists.intro; refine ⟨fun W hW => ?_, ?_⟩; (· go_simp; (try go_bits); rfl); go_big_quiet_on)))
        apply wpQuiet_nil
        intro W hb
        go_wp2
        go_ret
        exact ⟨by rw [HF.out]; rfl, hbx.trans hb⟩
      cases h2 : inB p1.Minute 0 9999
      · have HF := Lib.hid (not_arr E1.out (by simp [arrAt, vArr, h2]))
        go_wp2
        refine region_bl (by kernel_rfl) (by kernel_rfl) hbr ?_
        repeat' (first | go_big_quiet_skip | (go_big_quiet_want; go_simp; (try go_bits); first | (refine ⟨_, fun _ _ => rfl, ?_⟩; go_big_quiet_on) | (apply Exists.intro; (with_reducible refine ⟨fun W hW => ret_bl hW (same_bl (inside_any _ _ _ W)), ?_⟩); go_big_quiet_on) | (apply Exists.intro; (with_reducible refine ⟨fun W hW => ret_bl hW (same_bl (isMinute_any _ W)), ?_⟩); go_big_quiet_on) | (apply Exists.intro; refine ⟨fun W hW => ?_, ?_⟩; (· go_simp; (try go_bits); rfl); go_big_quiet_on)))
        apply wpQuiet_nil
        intro W hb
        go_wp2
        go_ret
        exact ⟨by rw [HF.out]; rfl, hbx.trans hb⟩
      cases h3 : inB p1.Weight 1 9
      · have HF := Lib.hid (not_arr E1.out (by simp [arrAt, vArr, h3]))
        go_wp2
        refine region_bl (by kernel_rfl) (by kernel_rfl) hbr ?_
        repeat' (first | go_big_quiet_skip | (go_big_quiet_want; go_simp; (try go_bits); first | (refine ⟨_, fun _ _ => rfl, ?_⟩; go_big_quiet_on) | (apply Exists.intro; (with_reducible refine ⟨fun W hW => ret_bl hW (same_bl (inside_any _ _ _ W)), ?_⟩); go_big_quiet_on) | (apply Exists.intro; (with_reducible refine ⟨fun W hW => ret_bl hW (same_bl (isMinute_any _ W)), ?_⟩); go_big_quiet_on) | (apply Exists.intro; refine ⟨fun W hW => ?_, ?_⟩; (· go_simp; (try go_bits); rfl); go_big_quiet_on)))
        apply wpQuiet_nil
        intro W hb
        go_wp2
        go_ret
        exact ⟨by rw [HF.out]; rfl, hbx.trans hb⟩
      by_cases hk0 : k = 0
      · have g0 : decide ((0 : Int) < (k : Int)) = false := by simp; omega
        have HZ : Hid (decide (0 < k) = false) := by show _ = _; simp; omega
        have g1 : decide (0 < k) = false := HZ.out
        clear hk0
        go_wp2
        refine region_bl (by kernel_rfl) (by kernel_rfl) hbr ?_
        repeat' (first | go_big_quiet_skip | (go_big_quiet_want; go_simp; (try go_bits); first | (refine ⟨_, fun _ _ => rfl, ?_⟩; go_big_quiet_on) | (apply Exists.intro; (with_reducible refine ⟨fun W hW => ret_bl hW (same_bl (inside_any _ _ _ W)), ?_⟩); go_big_quiet_on) | (apply Exists.intro; (with_reducible refine ⟨fun W hW => ret_bl hW (same_bl (isMinute_any _ W)), ?_⟩); go_big_quiet_on) | (apply Exists.intro; refine ⟨fun W hW => ?_, ?_⟩; (· go_simp; (try go_bits); rfl); go_big_quiet_on)))
        apply wpQuiet_nil
        intro W hb
        go_wp2
        first | exact ⟨⟨k + 1, by omega, by go_num, hbx.trans hb, by show _ = _; rw [upTo_one E1.out, he.out, arrAt, vArr, h1, h2, h3, HZ.out]; rfl⟩, by simp [intOf]; omega⟩ | (refine ⟨?_, by simp [intOf]; omega⟩; (repeat apply Exists.intro); exact ⟨⟨k + 1, by omega, by go_num, hbx.trans hb, by show _ = _; rw [upTo_one E1.out, he.out, arrAt, vArr, h1, h2, h3, HZ.out]; rfl⟩, rfl⟩)
      · have g1 : (0 : Int) ≤ (k : Int) - 1 := by omega
        have g2 : 1 ≤ (k : Int) := by omega
        have g3 : (k : Int) - 1 < (n : Int) := by omega
        have g4 : ((k : Int) - 1).toNat = k - 1 := by omega
        have g5 : 0 < k := by omega
        have g6 : (0 : Int) < (k : Int) := by omega
        have g7 : k - 1 < n := by omega
        obtain ⟨b2, o2, p2, hA, e2, c21, c22, c23, c24⟩ := h.Arrival (i := k - 1) (by omega)
        injection hA with hA
        injection hA with hA1 hA2
        subst hA1 hA2
        have C21 : ∀ W, Bl (wr.alloc (.cells #[.int .i64 p1.Id, .bool p1.Up, .int .i64 p1.Minute, .int .i64 p1.Weight] 43)) W → W.cell? ⟨b1, o1 + (k - 1) * 4, none⟩ = some (.int .i64 p2.Id) := fun W hW => c21 W (hbx.trans hW)
        have HP := Lib.hid (prev_id hk0 e2)
        clear e2 hk0
        cases h4 : decide (p1.Id ≤ p2.Id)
        · go_wp2
          refine region_bl (by kernel_rfl) (by kernel_rfl) hbr ?_
          repeat' (first | go_big_quiet_skip | (go_big_quiet_want; go_simp; (try go_bits); first | (refine ⟨_, fun _ _ => rfl, ?_⟩; go_big_quiet_on) | (apply Exists.intro; (with_reducible refine ⟨fun W hW => ret_bl hW (same_bl (inside_any _ _ _ W)), ?_⟩); go_big_quiet_on) | (apply Exists.intro; (with_reducible refine ⟨fun W hW => ret_bl hW (same_bl (isMinute_any _ W)), ?_⟩); go_big_quiet_on) | (apply Exists.intro; refine ⟨fun W hW => ?_, ?_⟩; (· go_simp; (try go_bits); rfl); go_big_quiet_on)))
          apply wpQuiet_nil
          intro W hb
          go_wp2
          first | exact ⟨⟨k + 1, by omega, by go_num, hbx.trans hb, by show _ = _; rw [upTo_one E1.out, he.out, arrAt, vArr, h1, h2, h3, HP.out.1, HP.out.2, h4]; rfl⟩, by simp [intOf]; omega⟩ | (refine ⟨?_, by simp [intOf]; omega⟩; (repeat apply Exists.intro); exact ⟨⟨k + 1, by omega, by go_num, hbx.trans hb, by show _ = _; rw [upTo_one E1.out, he.out, arrAt, vArr, h1, h2, h3, HP.out.1, HP.out.2, h4]; rfl⟩, rfl⟩)
        · have HF := Lib.hid (not_arr E1.out (by simp only [arrAt, HP.out.1, HP.out.2, h4]; simp))
          go_wp2
          refine region_bl (by kernel_rfl) (by kernel_rfl) hbr ?_
          repeat' (first | go_big_quiet_skip | (go_big_quiet_want; go_simp; (try go_bits); first | (refine ⟨_, fun _ _ => rfl, ?_⟩; go_big_quiet_on) | (apply Exists.intro; (with_reducible refine ⟨fun W hW => ret_bl hW (same_bl (inside_any _ _ _ W)), ?_⟩); go_big_quiet_on) | (apply Exists.intro; (with_reducible refine ⟨fun W hW => ret_bl hW (same_bl (isMinute_any _ W)), ?_⟩); go_big_quiet_on) | (apply Exists.intro; refine ⟨fun W hW => ?_, ?_⟩; (· go_simp; (try go_bits); rfl); go_big_quiet_on)))
          apply wpQuiet_nil
          intro W hb
          go_wp2
          go_ret
          exact ⟨by rw [HF.out]; rfl, hbx.trans hb⟩
    · have e : k = n := by omega
      subst e
      have HF : Hid (arrOk l = decide (k ≤ 6)) := by
        show _ = _
        have := he.out
        rw [← HL.out] at this ⊢
        rw [arrOk, this, Bool.and_true]
      cases h2 : decide (k ≤ 6)
      all_goals
        have h3 : decide ((k : Int) ≤ 6) = decide (k ≤ 6) := by simp; omega
        rw [h2] at h3
        go_wp2_with fail
        go_ret
        exact ⟨by rw [HF.out, h2]; rfl, hb⟩
set_option maxHeartbeats 2000000 in
theorem l8Good_any (A : Option Addr) (n c : Nat) (l : List Arrival) (w : World) (h : Sl Arrival.cs 4 w A n l) :
    Calls Try.prog 46 #[.slice A n c] w fun e w' => e = .returned (.bool (arrOk l)) ∧ Bl w w' := by
  have bn := h.le
  have HL := Lib.hid h.1
  go_enter Try.func46, Try.ntmps46
  go_wp2
  go_loopw [3] (fun i wr => ∃ k : Nat, k ≤ n ∧ i = .int .i64 k ∧ Bl w wr ∧ Hid (upTo (arrAt l) l k = true)) (fun i _ => n - (intOf i).toNat)
  case atStart => exact ⟨0, Nat.zero_le _, rfl, Bl.refl _, rfl⟩
  case round =>
    obtain ⟨k, hk, rfl, hb, he⟩ := hrel
    by_cases hlt : k < n
    · obtain ⟨b1, o1, p1, rfl, e1, c11, c12, c13, c14⟩ := h.Arrival hlt
      have E1 := Lib.hid e1; clear e1
      have X0 : ∀ W, Bl (wr.alloc (.cells #[.int .i64 p1.Id, .bool p1.Up, .int .i64 p1.Minute, .int .i64 p1.Weight] 43)) W → W.cell? ⟨wr.heap.size, 0, none⟩ = some (.int .i64 p1.Id) := Bl.all (by go_simp)
      have X2 : ∀ W, Bl (wr.alloc (.cells #[.int .i64 p1.Id, .bool p1.Up, .int .i64 p1.Minute, .int .i64 p1.Weight] 43)) W → W.cell? ⟨wr.heap.size, 2, none⟩ = some (.int .i64 p1.Minute) := Bl.all (by go_simp)
      have X3 : ∀ W, Bl (wr.alloc (.cells #[.int .i64 p1.Id, .bool p1.Up, .int .i64 p1.Minute, .int .i64 p1.Weight] 43)) W → W.cell? ⟨wr.heap.size, 3, none⟩ = some (.int .i64 p1.Weight) := Bl.all (by go_simp)
      have hbx := hb.alloc (.cells #[.int .i64 p1.Id, .bool p1.Up, .int .i64 p1.Minute, .int .i64 p1.Weight] 43)
      have hbr := Bl.refl (wr.alloc (.cells #[.int .i64 p1.Id, .bool p1.Up, .int .i64 p1.Minute, .int .i64 p1.Weight] 43))
      cases h1 : inB p1.Id 1 99
      · have HF := Lib.hid (not_arr E1.out (by simp [arrAt, vArr, h1]))
        go_wp2
        refine region_bl (by kernel_rfl) (by kernel_rfl) hbr ?_
        repeat' (first | go_big_quiet_skip | (go_big_quiet_want; go_simp; (try go_bits); first | (refine ⟨_, fun _ _ => rfl, ?_⟩; go_big_quiet_on) | (apply Exists.intro; (with_reducible refine ⟨fun W hW => ret_bl hW (same_bl (l1In_any _ _ _ W)), ?_⟩); go_big_quiet_on) | (apply Exists.intro; (with_reducible refine ⟨fun W hW => ret_bl hW (same_bl (l8Minute_any _ W)), ?_⟩); go_big_quiet_on) | (apply Exists.intro; refine ⟨fun W hW => ?_, ?_⟩; (· go_simp; (try go_bits); rfl); go_big_quiet_on)))
        apply wpQuiet_nil
        intro W hb
        go_wp2
        go_ret
        exact ⟨by rw [HF.out]; rfl, hbx.trans hb⟩
      cases h2 : inB p1.Minute 0 9999
      · have HF := Lib.hid (not_arr E1.out (by simp [arrAt, vArr, h2]))
        go_wp2
        refine region_bl (by kernel_rfl) (by kernel_rfl) hbr ?_
        repeat' (first | go_big_quiet_skip | (go_big_quiet_want; go_simp; (try go_bits); first | (refine ⟨_, fun _ _ => rfl, ?_⟩; go_big_quiet_on) | (apply Exists.intro; (with_reducible refine ⟨fun W hW => ret_bl hW (same_bl (l1In_any _ _ _ W)), ?_⟩); go_big_quiet_on) | (apply Exists.intro; (with_reducible refine ⟨fun W hW => ret_bl hW (same_bl (l8Minute_any _ W)), ?_⟩); go_big_quiet_on) | (apply Exists.intro; refine ⟨fun W hW => ?_, ?_⟩; (· go_simp; (try go_bits); rfl); go_big_quiet_on)))
        apply wpQuiet_nil
        intro W hb
        go_wp2
        go_ret
        exact ⟨by rw [HF.out]; rfl, hbx.trans hb⟩
      cases h3 : inB p1.Weight 1 9
      · have HF := Lib.hid (not_arr E1.out (by simp [arrAt, vArr, h3]))
        go_wp2
        refine region_bl (by kernel_rfl) (by kernel_rfl) hbr ?_
        repeat' (first | go_big_quiet_skip | (go_big_quiet_want; go_simp; (try go_bits); first | (refine ⟨_, fun _ _ => rfl, ?_⟩; go_big_quiet_on) | (apply Exists.intro; (with_reducible refine ⟨fun W hW => ret_bl hW (same_bl (l1In_any _ _ _ W)), ?_⟩); go_big_quiet_on) | (apply Exists.intro; (with_reducible refine ⟨fun W hW => ret_bl hW (same_bl (l8Minute_any _ W)), ?_⟩); go_big_quiet_on) | (apply Exists.intro; refine ⟨fun W hW => ?_, ?_⟩; (· go_simp; (try go_bits); rfl); go_big_quiet_on)))
        apply wpQuiet_nil
        intro W hb
        go_wp2
        go_ret
        exact ⟨by rw [HF.out]; rfl, hbx.trans hb⟩
      by_cases hk0 : k = 0
      · have g0 : decide ((0 : Int) < (k : Int)) = false := by simp; omega
        have HZ : Hid (decide (0 < k) = false) := by show _ = _; simp; omega
        have g1 : decide (0 < k) = false := HZ.out
        clear hk0
        go_wp2
        refine region_bl (by kernel_rfl) (by kernel_rfl) hbr ?_
        repeat' (first | go_big_quiet_skip | (go_big_quiet_want; go_simp; (try go_bits); first | (refine ⟨_, fun _ _ => rfl, ?_⟩; go_big_quiet_on) | (apply Exists.intro; (with_reducible refine ⟨fun W hW => ret_bl hW (same_bl (l1In_any _ _ _ W)), ?_⟩); go_big_quiet_on) | (apply Exists.intro; (with_reducible refine ⟨fun W hW => ret_bl hW (same_bl (l8Minute_any _ W)), ?_⟩); go_big_quiet_on) | (apply Exists.intro; refine ⟨fun W hW => ?_, ?_⟩; (· go_simp; (try go_bits); rfl); go_big_quiet_on)))
        apply wpQuiet_nil
        intro W hb
        go_wp2
        first | exact ⟨⟨k + 1, by omega, by go_num, hbx.trans hb, by show _ = _; rw [upTo_one E1.out, he.out, arrAt, vArr, h1, h2, h3, HZ.out]; rfl⟩, by simp [intOf]; omega⟩ | (refine ⟨?_, by simp [intOf]; omega⟩; (repeat apply Exists.intro); exact ⟨⟨k + 1, by omega, by go_num, hbx.trans hb, by show _ = _; rw [upTo_one E1.out, he.out, arrAt, vArr, h1, h2, h3, HZ.out]; rfl⟩, rfl⟩)
      · have g1 : (0 : Int) ≤ (k : Int) - 1 := by omega
        have g2 : 1 ≤ (k : Int) := by omega
        have g3 : (k : Int) - 1 < (n : Int) := by omega
        have g4 : ((k : Int) - 1).toNat = k - 1 := by omega
        have g5 : 0 < k := by omega
        have g6 : (0 : Int) < (k : Int) := by omega
        have g7 : k - 1 < n := by omega
        obtain ⟨b2, o2, p2, hA, e2, c21, c22, c23, c24⟩ := h.Arrival (i := k - 1) (by omega)
        injection hA with hA
        injection hA with hA1 hA2
        subst hA1 hA2
        have C21 : ∀ W, Bl (wr.alloc (.cells #[.int .i64 p1.Id, .bool p1.Up, .int .i64 p1.Minute, .int .i64 p1.Weight] 43)) W → W.cell? ⟨b1, o1 + (k - 1) * 4, none⟩ = some (.int .i64 p2.Id) := fun W hW => c21 W (hbx.trans hW)
        have HP := Lib.hid (prev_id hk0 e2)
        clear e2 hk0
        cases h4 : decide (p1.Id ≤ p2.Id)
        · go_wp2
          refine region_bl (by kernel_rfl) (by kernel_rfl) hbr ?_
          repeat' (first | go_big_quiet_skip | (go_big_quiet_want; go_simp; (try go_bits); first | (refine ⟨_, fun _ _ => rfl, ?_⟩; go_big_quiet_on) | (apply Exists.intro; (with_reducible refine ⟨fun W hW => ret_bl hW (same_bl (l1In_any _ _ _ W)), ?_⟩); go_big_quiet_on) | (apply Exists.intro; (with_reducible refine ⟨fun W hW => ret_bl hW (same_bl (l8Minute_any _ W)), ?_⟩); go_big_quiet_on) | (apply Exists.intro; refine ⟨fun W hW => ?_, ?_⟩; (· go_simp; (try go_bits); rfl); go_big_quiet_on)))
          apply wpQuiet_nil
          intro W hb
          go_wp2
          first | exact ⟨⟨k + 1, by omega, by go_num, hbx.trans hb, by show _ = _; rw [upTo_one E1.out, he.out, arrAt, vArr, h1, h2, h3, HP.out.1, HP.out.2, h4]; rfl⟩, by simp [intOf]; omega⟩ | (refine ⟨?_, by simp [intOf]; omega⟩; (repeat apply Exists.intro); exact ⟨⟨k + 1, by omega, by go_num, hbx.trans hb, by show _ = _; rw [upTo_one E1.out, he.out, arrAt, vArr, h1, h2, h3, HP.out.1, HP.out.2, h4]; rfl⟩, rfl⟩)
        · have HF := Lib.hid (not_arr E1.out (by simp only [arrAt, HP.out.1, HP.out.2, h4]; simp))
          go_wp2
          refine region_bl (by kernel_rfl) (by kernel_rfl) hbr ?_
          repeat' (first | go_big_quiet_skip | (go_big_quiet_want; go_simp; (try go_bits); first | (refine ⟨_, fun _ _ => rfl, ?_⟩; go_big_quiet_on) | (apply Exists.intro; (with_reducible refine ⟨fun W hW => ret_bl hW (same_bl (l1In_any _ _ _ W)), ?_⟩); go_big_quiet_on) | (apply Exists.intro; (with_reducible refine ⟨fun W hW => ret_bl hW (same_bl (l8Minute_any _ W)), ?_⟩); go_big_quiet_on) | (apply Exists.intro; refine ⟨fun W hW => ?_, ?_⟩; (· go_simp; (try go_bits); rfl); go_big_quiet_on)))
          apply wpQuiet_nil
          intro W hb
          go_wp2
          go_ret
          exact ⟨by rw [HF.out]; rfl, hbx.trans hb⟩
    · have e : k = n := by omega
      subst e
      have HF : Hid (arrOk l = decide (k ≤ 6)) := by
        show _ = _
        have := he.out
        rw [← HL.out] at this ⊢
        rw [arrOk, this, Bool.and_true]
      cases h2 : decide (k ≤ 6)
      all_goals
        have h3 : decide ((k : Int) ≤ 6) = decide (k ≤ 6) := by simp; omega
        rw [h2] at h3
        go_wp2_with fail
        go_ret
        exact ⟨by rw [HF.out, h2]; rfl, hb⟩
set_option maxHeartbeats 400000 in
theorem specAreArrivals_any (A : Option Addr) (n c : Nat) (l : List Arrival) (w : World) (h : Sl Arrival.cs 4 w A n l) :
    Calls Try.prog 15 #[.slice A n c] w fun e w' => e = .returned (.bool (arrOk l)) ∧ Bl w w' := by
  have H1 := Lib.hid (l8Good_any A n c l w h)
  go_enter Try.func15, Try.ntmps15
  go_wp2_with fail
  refine H1.out.mono ?_
  rintro e w' ⟨rfl, hb⟩
  go_wp2_with fail
  go_ret
  exact ⟨rfl, hb⟩
end Go.Proofs.Ytnckpionabokeaa
