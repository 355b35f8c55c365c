/- The contracts of what the laws of chapters 8 and 9 draw. -/
import Derived.Test.YtnckpionabokeaaD8b
namespace Go.Proofs.Ytnckpionabokeaa
open Go.RowKit
/-- Arrivals, a way, minutes. -/
def DrA3 (w : World) (e : Ending) (w' : World) : Prop :=
  ∃ (B : Option Addr) (m d : Nat) (l : List Arrival) (high : Bool) (mi : Int), e = .returned (.tuple #[.slice B m d, .bool high, .int .i64 mi]) ∧ Sl Arrival.cs 4 w' B m l ∧ m ≤ 1048576 ∧ m ≤ d ∧ Bl w w'
/-- Arrivals, a way, minutes, an order. -/
def DrA4 (top : Nat) (w : World) (e : Ending) (w' : World) : Prop :=
  ∃ (B : Option Addr) (m d : Nat) (l : List Arrival) (high : Bool) (mi : Int) (C : Option Addr) (p f : Nat) (o : List Int), e = .returned (.tuple #[.slice B m d, .bool high, .int .i64 mi, .slice C p f]) ∧ Sl Arrival.cs 4 w' B m l ∧ m ≤ 1048576 ∧ m ≤ d ∧ Sl ci 1 w' C p o ∧ p ≤ top ∧ p ≤ f ∧ Bl w w'
/-- Arrivals, a way, minutes, an order, a number. -/
def DrA5 (w : World) (e : Ending) (w' : World) : Prop :=
  ∃ (B : Option Addr) (m d : Nat) (l : List Arrival) (high : Bool) (mi : Int) (C : Option Addr) (p f : Nat) (o : List Int) (x : Int), e = .returned (.tuple #[.slice B m d, .bool high, .int .i64 mi, .slice C p f, .int .i64 x]) ∧ Sl Arrival.cs 4 w' B m l ∧ m ≤ 1048576 ∧ m ≤ d ∧ Sl ci 1 w' C p o ∧ p ≤ 1048576 ∧ p ≤ f ∧ Bl w w'
/-- Arrivals. -/
def DrA1 (w : World) (e : Ending) (w' : World) : Prop :=
  ∃ (B : Option Addr) (m d : Nat) (l : List Arrival), e = .returned (.slice B m d) ∧ Sl Arrival.cs 4 w' B m l ∧ m ≤ 1048576 ∧ m ≤ d ∧ Bl w w'
/-- Arrivals, an order. -/
def DrA2 (w : World) (e : Ending) (w' : World) : Prop :=
  ∃ (B : Option Addr) (m d : Nat) (l : List Arrival) (C : Option Addr) (p f : Nat) (o : List Int), e = .returned (.tuple #[.slice B m d, .slice C p f]) ∧ Sl Arrival.cs 4 w' B m l ∧ m ≤ 1048576 ∧ m ≤ d ∧ Sl ci 1 w' C p o ∧ p ≤ 1048576 ∧ p ≤ f ∧ Bl w w'
/-- A drawn list of arrivals in a later world. -/
theorem sl_arr {w : World} {B : Nat} {L : Option Addr} {m d : Nat} {l : List Arrival} (ho : w.ownsRow B 43 4 (.slice L m d) m (l.flatMap Arrival.cs)) (hl : l.length = m) (hm : m ≤ 1048576) : Sl Arrival.cs 4 w L m l ∧ m ≤ d :=
  ⟨Sl.of_own Arrival.cs_len ho hl (by omega), own_cap ho⟩
theorem sl_ints {w : World} {B : Nat} {L : Option Addr} {m d : Nat} {l : List Int} (ho : w.ownsRow B 3 1 (.slice L m d) m (l.flatMap ci)) (hl : l.length = m) (hm : m ≤ 1048576) : Sl ci 1 w L m l ∧ m ≤ d :=
  ⟨Sl.of_own ci_len ho hl (by omega), own_cap ho⟩
section
variable (A : Option Addr) (n c : Nat) (code : List Int) (w : World) (hs : Sl cb 1 w A n code) (hby : Bytes code)
include hs hby in
set_option maxHeartbeats 2000000 in
theorem drawAreArrivals_any : Calls Try.prog 64 #[.slice A n c] w (DrA1 w) := by
  have HAR := arrivals_all w w.heap.size A n c code hs hby
  have HO := one_all w w.heap.size A n c code hs hby
  have hgw : w.heap.size < (w.alloc (.cells #[.slice A n c, .int .i64 0, .int .u64 0] 75)).heap.size := by simp
  have HC0 : Hid (Cur w w.heap.size A n c 0 (w.alloc (.cells #[.slice A n c, .int .i64 0, .int .u64 0] 75))) := ⟨(Bl.refl w).alloc _, Nat.le_refl _, 0, 0, Nat.le_refl _, heap_alloc_new w _⟩
  go_enter Try.func64, Try.ntmps64
  go_wp2_with fail
  refine (HAR.out 0 (by omega) _ HC0.out).mono ?_
  rintro e w1 ⟨B, m, d, l, rfl, ho, hl, hm, hd⟩
  have h9 := sl_arr ho hl (by omega)
  have HD := Lib.hid hd
  have H9 := Lib.hid h9
  clear ho hd hl h9
  go_wp2_with fail
  go_ret
  exact ⟨B, m, d, l, rfl, H9.out.1, by omega, H9.out.2, HD.out.cur.1⟩
include hs hby in
theorem drawFirstComeLockages_any : Calls Try.prog 29 #[.slice A n c] w (DrA1 w) := by
  have H1 := Lib.hid (drawAreArrivals_any A n c code w hs hby)
  go_enter Try.func29, Try.ntmps29
  go_wp2_with fail
  refine H1.out.mono ?_
  rintro e w1 ⟨B, m, d, l, rfl, hl, hm, hmd, hb⟩
  go_wp2_with fail
  go_ret
  exact ⟨B, m, d, l, rfl, hl, hm, hmd, hb⟩
include hs hby in
set_option maxHeartbeats 2000000 in
theorem drawIsLockageOrder_any : Calls Try.prog 45 #[.slice A n c] w (DrA2 w) := by
  have HAR := arrivals_all w w.heap.size A n c code hs hby
  have HO := one_all w w.heap.size A n c code hs hby
  have hgw : w.heap.size < (w.alloc (.cells #[.slice A n c, .int .i64 0, .int .u64 0] 75)).heap.size := by simp
  have HC0 : Hid (Cur w w.heap.size A n c 0 (w.alloc (.cells #[.slice A n c, .int .i64 0, .int .u64 0] 75))) := ⟨(Bl.refl w).alloc _, Nat.le_refl _, 0, 0, Nat.le_refl _, heap_alloc_new w _⟩
  go_enter Try.func45, Try.ntmps45
  go_wp2_with fail
  refine (HAR.out 0 (by omega) _ HC0.out).mono ?_
  rintro e w1 ⟨B, m, d, l, rfl, ho, hl, hm, hd⟩
  have HOR := Lib.hid ho
  have HD := Lib.hid hd
  have HL := Lib.hid hl
  clear ho hd hl
  go_wp2_with fail
  refine (lockageOrder_any w w.heap.size A n c 100 code hs hby (by omega) B m d l _ (sl_arr HOR.out HL.out (by omega)).1 hm (own_ne HOR.out hgw) HD.out.cur).mono ?_
  rintro e w2 ⟨C, p, f, o, rfl, ho2, hl2, hm2, hd⟩
  have HOR := Lib.hid (hd.keep hgw HOR.out)
  have HD := Lib.hid (HD.out.trans hd)
  have HO2 := Lib.hid ho2
  have HL2 := Lib.hid hl2
  clear hd ho2 hl2
  go_wp2_with fail
  go_ret2
  have h9 := sl_arr HOR.out HL.out (by omega)
  have h8 := sl_ints HO2.out HL2.out (by omega)
  exact ⟨B, m, d, l, C, p, f, o, rfl, h9.1, by omega, h9.2, h8.1, by omega, h8.2, HD.out.cur.1⟩
include hs hby in
set_option maxHeartbeats 2000000 in
theorem drawLockageTimes_any : Calls Try.prog 51 #[.slice A n c] w (DrA4 9 w) := by
  have HAR := arrivals_all w w.heap.size A n c code hs hby
  have HO := one_all w w.heap.size A n c code hs hby
  have hgw : w.heap.size < (w.alloc (.cells #[.slice A n c, .int .i64 0, .int .u64 0] 75)).heap.size := by simp
  have HC0 : Hid (Cur w w.heap.size A n c 0 (w.alloc (.cells #[.slice A n c, .int .i64 0, .int .u64 0] 75))) := ⟨(Bl.refl w).alloc _, Nat.le_refl _, 0, 0, Nat.le_refl _, heap_alloc_new w _⟩
  have HMI := lockageMinutes_all w w.heap.size A n c code hs hby
  go_enter Try.func51, Try.ntmps51
  go_wp2_with fail
  refine (HAR.out 0 (by omega) _ HC0.out).mono ?_
  rintro e w1 ⟨B, m, d, l, rfl, ho, hl, hm, hd⟩
  have HOR := Lib.hid ho
  have HD := Lib.hid hd
  have HL := Lib.hid hl
  clear ho hd hl
  go_wp2_with fail
  refine (HO.out _ (by omega) 2 (by omega) (by omega) _ HD.out.cur).mono ?_
  rintro e w' ⟨high, rfl, hd⟩
  have HOR := Lib.hid (hd.keep hgw HOR.out)
  have HD := Lib.hid (HD.out.trans hd)
  clear hd
  go_wp2_with fail
  refine (HMI.out _ (by omega) _ HD.out.cur).mono ?_
  rintro e w' ⟨mi, rfl, _, hd⟩
  have HOR := Lib.hid (hd.keep hgw HOR.out)
  have HD := Lib.hid (HD.out.trans hd)
  clear hd
  go_wp2_with fail
  refine (lockageOrder_any w w.heap.size A n c _ code hs hby (by omega) B m d l _ (sl_arr HOR.out HL.out (by omega)).1 hm (own_ne HOR.out hgw) HD.out.cur).mono ?_
  rintro e w2 ⟨C, p, f, o, rfl, ho2, hl2, hm2, hd⟩
  have HOR := Lib.hid (hd.keep hgw HOR.out)
  have HD := Lib.hid (HD.out.trans hd)
  have HO2 := Lib.hid ho2
  have HL2 := Lib.hid hl2
  clear hd ho2 hl2
  go_wp2_with fail
  (try simp only [Exit.inBlock, Exit.then])
  refine bodyPost_ret (results_tmp4 rfl _ _ _) rfl ?_
  have h9 := sl_arr HOR.out HL.out (by omega)
  have h8 := sl_ints HO2.out HL2.out (by omega)
  exact ⟨B, m, d, l, high, mi, C, p, f, o, rfl, h9.1, by omega, h9.2, h8.1, by omega, h8.2, HD.out.cur.1⟩
include hs hby in
theorem drawLockageDelay_any : Calls Try.prog 20 #[.slice A n c] w (DrA4 9 w) := by
  have H1 := Lib.hid (drawLockageTimes_any A n c code w hs hby)
  go_enter Try.func20, Try.ntmps20
  go_wp2_with fail
  refine H1.out.mono ?_
  rintro e w1 ⟨B, m, d, l, high, mi, C, p, f, o, rfl, hl, hm, hmd, ho, hp, hpf, hb⟩
  go_wp2_with fail
  (try simp only [Exit.inBlock, Exit.then])
  refine bodyPost_ret (results_tmp4 rfl _ _ _) rfl ?_
  exact ⟨B, m, d, l, high, mi, C, p, f, o, rfl, hl, hm, hmd, ho, hp, hpf, hb⟩
include hs hby in
theorem drawLastLockage_any : Calls Try.prog 44 #[.slice A n c] w (DrA4 9 w) := by
  have H1 := Lib.hid (drawLockageTimes_any A n c code w hs hby)
  go_enter Try.func44, Try.ntmps44
  go_wp2_with fail
  refine H1.out.mono ?_
  rintro e w1 ⟨B, m, d, l, high, mi, C, p, f, o, rfl, hl, hm, hmd, ho, hp, hpf, hb⟩
  go_wp2_with fail
  (try simp only [Exit.inBlock, Exit.then])
  refine bodyPost_ret (results_tmp4 rfl _ _ _) rfl ?_
  exact ⟨B, m, d, l, high, mi, C, p, f, o, rfl, hl, hm, hmd, ho, hp, hpf, hb⟩
end
end Go.Proofs.Ytnckpionabokeaa
