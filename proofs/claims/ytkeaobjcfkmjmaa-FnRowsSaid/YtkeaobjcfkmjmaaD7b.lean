/- The contracts of the draws of chapter 7. -/
import Derived.Test.YtkeaobjcfkmjmaaD7
namespace Go.Proofs.Ytkeaobjcfkmjmaa
open Go.RowKit
/-- Cargos. -/
def DrC1 (w : World) (e : Ending) (w' : World) : Prop :=
  ∃ (B : Option Addr) (m d : Nat) (l : List Cargo), e = .returned (.slice B m d) ∧ Sl Cargo.cs 3 w' B m l ∧ m ≤ 7 ∧ m ≤ d ∧ Bl w w'
/-- Cargos, a number. -/
def DrC2 (w : World) (e : Ending) (w' : World) : Prop :=
  ∃ (B : Option Addr) (m d : Nat) (l : List Cargo) (x : Int), e = .returned (.tuple #[.slice B m d, .int .i64 x]) ∧ Sl Cargo.cs 3 w' B m l ∧ m ≤ 7 ∧ m ≤ d ∧ Bl w w'
section
variable (A : Option Addr) (n c : Nat) (code : List Int) (w : World) (hs : Sl cb 1 w A n code) (hby : Bytes code)
include hs hby in
set_option maxHeartbeats 2000000 in
theorem drawIsCargoList_any : Calls Try.prog 70 #[.slice A n c] w (DrC1 w) := by
  have HB := Lib.hid (fun W hW => cargos_any w w.heap.size A n c 0 code hs hby (by omega) 6 (by omega) W hW)
  have HC0 : Hid (Cur w w.heap.size A n c 0 (w.alloc (.cells #[.slice A n c, .int .i64 0, .int .u64 0] 78))) := ⟨(Bl.refl w).alloc _, Nat.le_refl _, 0, 0, Nat.le_refl _, heap_alloc_new w _⟩
  clear hs hby
  go_enter Try.func70, Try.ntmps70
  go_wp2_with fail
  refine (HB.out _ HC0.out).mono ?_
  rintro e w1 ⟨B, m, d, l, rfl, hsl, hm, hmd, hne, hd⟩
  have HSL := Lib.hid hsl
  have HD := Lib.hid hd
  clear hsl hd
  go_wp2_with fail
  go_ret
  exact ⟨B, m, d, l, rfl, HSL.out, hm, hmd, HD.out.cur.1⟩
include hs hby in
set_option maxHeartbeats 2000000 in
theorem drawShortestRow_any : Calls Try.prog 47 #[.slice A n c] w (DrC1 w) := by
  have HB := Lib.hid (fun W hW => cargos_any w w.heap.size A n c 0 code hs hby (by omega) 5 (by omega) W hW)
  have HC0 : Hid (Cur w w.heap.size A n c 0 (w.alloc (.cells #[.slice A n c, .int .i64 0, .int .u64 0] 78))) := ⟨(Bl.refl w).alloc _, Nat.le_refl _, 0, 0, Nat.le_refl _, heap_alloc_new w _⟩
  clear hs hby
  go_enter Try.func47, Try.ntmps47
  go_wp2_with fail
  refine (HB.out _ HC0.out).mono ?_
  rintro e w1 ⟨B, m, d, l, rfl, hsl, hm, hmd, hne, hd⟩
  have HSL := Lib.hid hsl
  have HD := Lib.hid hd
  clear hsl hd
  go_wp2_with fail
  go_ret
  exact ⟨B, m, d, l, rfl, HSL.out, hm, hmd, HD.out.cur.1⟩
include hs hby in
set_option maxHeartbeats 2000000 in
theorem drawMostDangerous_any : Calls Try.prog 36 #[.slice A n c] w (DrC1 w) := by
  have HB := Lib.hid (drawIsCargoList_any A n c code w hs hby)
  clear hs hby
  go_enter Try.func36, Try.ntmps36
  go_wp2_with fail
  refine HB.out.mono ?_
  rintro e w1 ⟨B, m, d, l, rfl, hsl, hm, hmd, hb⟩
  go_wp2_with fail
  go_ret
  exact ⟨B, m, d, l, rfl, hsl, hm, hmd, hb⟩
/-- Two numbers. -/
def DrI2 (w : World) (e : Ending) (w' : World) : Prop := ∃ x y : Int, e = .returned (.tuple #[.int .i64 x, .int .i64 y]) ∧ Bl w w'
include hs hby in
set_option maxHeartbeats 2000000 in
theorem drawNeededGap_any : Calls Try.prog 34 #[.slice A n c] w (DrI2 w) := by
  have HP := pick_all w w.heap.size A n c code hs hby
  have HC0 : Hid (Cur w w.heap.size A n c 0 (w.alloc (.cells #[.slice A n c, .int .i64 0, .int .u64 0] 78))) := ⟨(Bl.refl w).alloc _, Nat.le_refl _, 0, 0, Nat.le_refl _, heap_alloc_new w _⟩
  clear hs hby
  go_enter Try.func34, Try.ntmps34
  go_wp2_with fail
  refine (HP.out _ (by omega) 5 (by omega) (by omega) _ HC0.out).mono ?_
  rintro e w1 ⟨x, rfl, ⟨x0, x1⟩, hd⟩
  have HD := Lib.hid hd
  clear hd
  go_wp2_with fail
  refine (HP.out _ (by omega) 12 (by omega) (by omega) _ HD.out.cur).mono ?_
  rintro e w2 ⟨y, rfl, ⟨y0, y1⟩, hd⟩
  have HD := Lib.hid (HD.out.trans hd)
  have hx4 : x ≤ 4 := by omega
  have hq : Int.tdiv y 11 = 0 ∨ Int.tdiv y 11 = 1 := by
    rw [Int.tdiv_eq_ediv_of_nonneg y0]; omega
  clear hd x1 y1
  rcases hq with hq | hq
  all_goals
    go_wp2_with fail
    refine (HP.out _ (by omega) 5 (by omega) (by omega) _ HD.out.cur).mono ?_
    rintro e w3 ⟨u, rfl, ⟨u0, u1⟩, hd⟩
    have HD := Lib.hid (HD.out.trans hd)
    clear hd
    go_wp2_with fail
    refine (HP.out _ (by omega) 12 (by omega) (by omega) _ HD.out.cur).mono ?_
    rintro e w4 ⟨v, rfl, ⟨v0, v1⟩, hd⟩
    have HD := Lib.hid (HD.out.trans hd)
    have hu4 : u ≤ 4 := by omega
    have hr : Int.tdiv v 11 = 0 ∨ Int.tdiv v 11 = 1 := by
      rw [Int.tdiv_eq_ediv_of_nonneg v0]; omega
    clear hd u1 v1
    rcases hr with hr | hr
    all_goals
      go_wp2_with fail
      go_ret2
      exact ⟨_, _, rfl, HD.out.cur.1⟩
include hs hby in
set_option maxHeartbeats 4000000 in
theorem drawMayShareLock_any : Calls Try.prog 35 #[.slice A n c] w (DrC2 w) := by
  have HB := Lib.hid (fun W hW => cargos_any w w.heap.size A n c 0 code hs hby (by omega) 6 (by omega) W hW)
  have HP := pick_all w w.heap.size A n c code hs hby
  have HA := among_all w w.heap.size A n c code hs hby
  have HC0 : Hid (Cur w w.heap.size A n c 0 (w.alloc (.cells #[.slice A n c, .int .i64 0, .int .u64 0] 78))) := ⟨(Bl.refl w).alloc _, Nat.le_refl _, 0, 0, Nat.le_refl _, heap_alloc_new w _⟩
  clear hs hby
  go_enter Try.func35, Try.ntmps35
  go_wp2_with fail
  refine (HB.out _ HC0.out).mono ?_
  rintro e w1 ⟨B, m, d, l, rfl, hsl, hm, hmd, hne, hd⟩
  have hgw : w.heap.size < w1.heap.size := hd.cur.lt
  have HNE := Lib.hid hne
  have HD := Lib.hid (hd.bl ((Bl.refl w1).alloc (.cells #[.int .i64 0, .int .i64 1, .int .i64 200, .int .i64 1000, .int .i64 (-1), .int .i64 1001] 3)))
  have HSL := Lib.hid (hsl.bl ((Bl.refl w1).alloc (.cells #[.int .i64 0, .int .i64 1, .int .i64 200, .int .i64 1000, .int .i64 (-1), .int .i64 1001] 3)))
  have HS0 := Lib.hid (sl_lit w1 3 [0, 1, 200, 1000, -1, 1001] (le_top (by decide)))
  clear hsl hd hne
  go_wp2_with fail
  refine (HP.out _ (by omega) 24 (by omega) (by omega) _ HD.out.cur).mono ?_
  rintro e w2 ⟨x, rfl, ⟨x0, x1⟩, hd⟩
  have HS0 := Lib.hid (hd.sl HS0.out (new_ne hgw))
  have HSL := Lib.hid (hd.sl HSL.out HNE.out)
  have HD := Lib.hid (HD.out.trans hd)
  clear hd
  have hx : x ≤ 23 := by omega
  have hq : Int.tdiv x 11 = 0 ∨ Int.tdiv x 11 = 1 ∨ Int.tdiv x 11 = 2 := by
    rw [Int.tdiv_eq_ediv_of_nonneg x0]; omega
  clear x1
  rcases hq with hq | hq | hq
  · go_wp2_with fail
    refine (HA.out _ (by omega) _ 4 _ _ (by decide) (by decide) _ (HS0.out.take_ (i := 4) (by decide)) (new_ne hgw) HD.out.cur).mono ?_
    rintro e w3 ⟨y, rfl, _, hd⟩
    have HSL := Lib.hid (hd.sl HSL.out HNE.out)
    have HD2 := Lib.hid (HD.out.trans hd)
    clear hd
    go_wp2_with fail
    go_ret2
    exact ⟨B, m, d, l, _, rfl, HSL.out, hm, hmd, HD2.out.cur.1⟩
  · go_wp2_with fail
    refine (HA.out _ (by omega) _ 5 _ _ (by decide) (by decide) _ (HS0.out.take_ (i := 5) (by decide)) (new_ne hgw) HD.out.cur).mono ?_
    rintro e w3 ⟨y, rfl, _, hd⟩
    have HSL := Lib.hid (hd.sl HSL.out HNE.out)
    have HD2 := Lib.hid (HD.out.trans hd)
    clear hd
    go_wp2_with fail
    go_ret2
    exact ⟨B, m, d, l, _, rfl, HSL.out, hm, hmd, HD2.out.cur.1⟩
  · go_wp2_with fail
    refine (HA.out _ (by omega) _ 6 _ _ (by decide) (by decide) _ (HS0.out.take_ (i := 6) (by decide)) (new_ne hgw) HD.out.cur).mono ?_
    rintro e w3 ⟨y, rfl, _, hd⟩
    have HSL := Lib.hid (hd.sl HSL.out HNE.out)
    have HD2 := Lib.hid (HD.out.trans hd)
    clear hd
    go_wp2_with fail
    go_ret2
    exact ⟨B, m, d, l, _, rfl, HSL.out, hm, hmd, HD2.out.cur.1⟩
end
end Go.Proofs.Ytkeaobjcfkmjmaa
