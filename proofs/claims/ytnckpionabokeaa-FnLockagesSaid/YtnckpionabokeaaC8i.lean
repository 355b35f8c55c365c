/- The contracts of FirstComeLockages in both programs. -/
import Derived.Test.YtnckpionabokeaaC8h
namespace Go.Proofs.Ytnckpionabokeaa
open Go.RowKit
theorem firstR_yes {l : List Arrival} (h : arrOk l = true) : firstR l = (fcK l l.length, true) := by simp [firstR, h]
theorem firstR_no {l : List Arrival} (h : arrOk l = false) : firstR l = ([], false) := by simp [firstR, h]
theorem implFirstCome_any (A : Option Addr) (n c : Nat) (l : List Arrival) (w : World) (h : Sl Arrival.cs 4 w A n l) :
    Calls Try.prog 30 #[.slice A n c] w (NewRes ci 1 3 (firstR l).1 (fun v => .tuple #[v, .bool (firstR l).2]) w) := by
  have H1 := Lib.hid (areArrivals_any A n c l w h)
  have HL := Lib.hid h.1
  cases h1 : arrOk l
  · have HR := Lib.hid (firstR_no h1)
    go_enter Try.func30, Try.ntmps30
    go_wp2_with fail
    refine H1.out.mono ?_
    rintro e w1 ⟨rfl, hb⟩
    simp only [h1]
    go_wp2_with fail
    go_ret2
    rw [HR.out]
    exact NewRes.nil hb
  have h6 := arr_len h1
  rw [HL.out] at h6
  have HR := Lib.hid (show firstR l = (fcK l n, true) by rw [firstR_yes h1, HL.out])
  have H2 := Lib.hid (fun W h => firstCome_any A n c l W h h6)
  go_enter Try.func30, Try.ntmps30
  go_wp2_with fail
  refine H1.out.mono ?_
  rintro e w1 ⟨rfl, hb⟩
  simp only [h1]
  go_wp2_with fail
  refine (H2.out _ (h.bl hb)).mono ?_
  rintro e w2 ⟨C, m4, c4, rfl, ho4, hl4, hm4, hbn⟩
  go_wp2_with fail
  go_ret2
  rw [HR.out]
  exact NewRes.own ho4 hb hl4 hm4 (hb.trans hbn)
theorem specFirstCome_any (A : Option Addr) (n c : Nat) (l : List Arrival) (w : World) (h : Sl Arrival.cs 4 w A n l) :
    Calls Try.prog 31 #[.slice A n c] w (NewRes ci 1 3 (firstR l).1 (fun v => .tuple #[v, .bool (firstR l).2]) w) := by
  have H1 := Lib.hid (l8Good_any A n c l w h)
  have HL := Lib.hid h.1
  cases h1 : arrOk l
  · have HR := Lib.hid (firstR_no h1)
    go_enter Try.func31, Try.ntmps31
    go_wp2_with fail
    refine H1.out.mono ?_
    rintro e w1 ⟨rfl, hb⟩
    simp only [h1]
    go_wp2_with fail
    go_ret2
    rw [HR.out]
    exact NewRes.empty hb
  have h6 := arr_len h1
  rw [HL.out] at h6
  have HR := Lib.hid (show firstR l = (fcK l n, true) by rw [firstR_yes h1, HL.out])
  have H2 := Lib.hid (fun W h => l8FirstCome_any A n c l W h h6)
  go_enter Try.func31, Try.ntmps31
  go_wp2_with fail
  refine H1.out.mono ?_
  rintro e w1 ⟨rfl, hb⟩
  simp only [h1]
  go_wp2_with fail
  refine (H2.out _ (h.bl hb)).mono ?_
  rintro e w2 ⟨C, m4, c4, rfl, ho4, hl4, hm4, hbn⟩
  go_wp2_with fail
  go_ret2
  rw [HR.out]
  exact NewRes.own ho4 hb hl4 hm4 (hb.trans hbn)
end Go.Proofs.Ytnckpionabokeaa
