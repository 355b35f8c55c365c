/- The contracts of the functions on pools. -/
import Derived.Test.YteejalanjeeecaaL1
import Derived.Test.YteejalanjeeecaaHPool
namespace Go.Proofs.Yteejalanjeeecaa
open Go.RowKit
def validPool (p : Pool) : Bool := inB p.Area 1 100 && inB p.Floor 0 2000 && inB p.Water 0 100000
set_option maxHeartbeats 400000 in
theorem l11Good_any (p : Pool) (w : World) : Calls Try.prog 54 #[p.val] w fun e w' => e = .returned (.bool (validPool p)) ∧ Bl w w' := by
  obtain ⟨a, b, c⟩ := p
  cases h1 : inB a 1 100 <;> cases h2 : inB b 0 2000 <;> cases h3 : inB c 0 100000
  all_goals
    simp only [Pool.val, validPool]
    go_enter Try.func54, Try.ntmps54
    go_wp2_with (go_at_call 65; refine (l1In_any _ _ _ _).mono ?_; rintro e w' ⟨rfl, rfl⟩)
    go_ret
    exact ⟨by simp [h1, h2, h3], (Bl.refl _).alloc _⟩
set_option maxHeartbeats 400000 in
theorem implIsValidPool_any (p : Pool) (w : World) : Calls Try.prog 17 #[p.val] w fun e w' => e = .returned (.bool (validPool p)) ∧ Bl w w' := by
  obtain ⟨a, b, c⟩ := p
  cases h1 : inB a 1 100 <;> cases h2 : inB b 0 2000 <;> cases h3 : inB c 0 100000
  all_goals
    simp only [Pool.val, validPool]
    go_enter Try.func17, Try.ntmps17
    go_wp2_with (go_at_call 55; refine (inside_any _ _ _ _).mono ?_; rintro e w' ⟨rfl, rfl⟩)
    go_ret
    exact ⟨by simp [h1, h2, h3], (Bl.refl _).alloc _⟩
set_option maxHeartbeats 400000 in
theorem specIsValidPool_any (p : Pool) (w : World) : Calls Try.prog 15 #[p.val] w fun e w' => e = .returned (.bool (validPool p)) ∧ Bl w w' := by
  obtain ⟨a, b, c⟩ := p
  have hc := fun w => l11Good_any ⟨a, b, c⟩ w
  simp only [Pool.val] at hc ⊢
  have HC := Lib.hid hc; clear hc
  go_enter Try.func15, Try.ntmps15
  go_wp2_with fail
  refine (HC.out _).mono ?_
  rintro e w' ⟨rfl, hb⟩
  go_wp2
  go_ret
  exact ⟨rfl, ((Bl.refl _).alloc _).trans hb⟩
/-! ### flows -/
def heightZ (p : Pool) : Int := p.Floor * p.Area + p.Water
def diffZ (a b : Pool) : Int := b.Area * heightZ a - a.Area * heightZ b
def flowZ (a b : Pool) : Int := if diffZ a b ≤ 0 then 0 else min a.Water (diffZ a b / (a.Area + b.Area))
/-- What a valid pool's numbers are. -/
structure Ok (p : Pool) : Prop where
  a0 : 1 ≤ p.Area
  a1 : p.Area ≤ 100
  f0 : 0 ≤ p.Floor
  f1 : p.Floor ≤ 2000
  w0 : 0 ≤ p.Water
  w1 : p.Water ≤ 200000
theorem ok_of_valid {p : Pool} (h : validPool p = true) : Ok p := by
  simp only [validPool, Bool.and_eq_true, inB_iff] at h
  exact ⟨by omega, by omega, by omega, by omega, by omega, by omega⟩
theorem mul_bd {x y X Y : Int} (hx : 0 ≤ x) (hX : x ≤ X) (hy : 0 ≤ y) (hY : y ≤ Y) : 0 ≤ x * y ∧ x * y ≤ X * Y :=
  ⟨Int.mul_nonneg hx hy, Int.mul_le_mul hX hY hy (Int.le_trans hx hX)⟩
theorem height_bd {p : Pool} (h : Ok p) : 0 ≤ heightZ p ∧ heightZ p ≤ 400000 := by
  have := mul_bd h.f0 h.f1 (Int.le_trans (by decide) h.a0) h.a1
  have := h.w0
  have := h.w1
  unfold heightZ
  omega
set_option maxHeartbeats 400000 in
theorem l11Height_any (p : Pool) (w : World) (h : Ok p) : Calls Try.prog 59 #[p.val] w fun e w' => e = .returned (.int .i64 (heightZ p)) ∧ Bl w w' := by
  have hm := mul_bd h.f0 h.f1 (Int.le_trans (by decide) h.a0) h.a1
  obtain ⟨a, b, c⟩ := p
  obtain ⟨h1, h2, h3, h4, h5, h6⟩ := h
  simp only at *
  obtain ⟨m1, m2⟩ := hm
  simp only [Pool.val]
  go_enter Try.func59, Try.ntmps59
  go_wp2
  go_ret
  exact ⟨rfl, (Bl.refl _).alloc _⟩
theorem flow_same (p q : Pool) (hp : 1 ≤ p.Area) (hq : 1 ≤ q.Area) (hw : 0 ≤ p.Water) : flowZ p q = min p.Water (max ((p.Floor - q.Floor) * p.Area * q.Area + p.Water * q.Area - q.Water * p.Area) 0 / (p.Area + q.Area)) := by
  have e : (p.Floor - q.Floor) * p.Area * q.Area + p.Water * q.Area - q.Water * p.Area = diffZ p q := by
    unfold diffZ heightZ
    simp only [Int.sub_mul, Int.mul_add]
    have e1 : q.Area * (p.Floor * p.Area) = p.Floor * p.Area * q.Area := Int.mul_comm _ _
    have e2 : p.Area * (q.Floor * q.Area) = q.Floor * p.Area * q.Area := by rw [Int.mul_left_comm, Int.mul_assoc]
    have e3 : q.Area * p.Water = p.Water * q.Area := Int.mul_comm _ _
    have e4 : p.Area * q.Water = q.Water * p.Area := Int.mul_comm _ _
    omega
  rw [e]
  unfold flowZ
  by_cases h : diffZ p q ≤ 0
  · rw [if_pos h, Int.max_eq_right h, Int.zero_ediv]; omega
  · rw [if_neg h, Int.max_eq_left (by omega)]
set_option maxHeartbeats 400000 in
theorem l11Flow_any (p q : Pool) (w : World) (hp : Ok p) (hq : Ok q) : Calls Try.prog 56 #[p.val, q.val] w fun e w' => e = .returned (.int .i64 (flowZ p q)) ∧ Bl w w' := by
  have H1 := Lib.hid (fun w => l11Height_any p w hp)
  have H2 := Lib.hid (fun w => l11Height_any q w hq)
  have b1 := height_bd hp
  have b2 := height_bd hq
  have m1 := mul_bd (Int.le_trans (by decide) hq.a0) hq.a1 b1.1 b1.2
  have m2 := mul_bd (Int.le_trans (by decide) hp.a0) hp.a1 b2.1 b2.2
  have HF : Hid (flowZ p q = if diffZ p q ≤ 0 then 0 else min p.Water (diffZ p q / (p.Area + q.Area))) := rfl
  have HD : Hid (diffZ p q = q.Area * heightZ p - p.Area * heightZ q) := rfl
  have dpos := hp.a0
  have dpos' := hq.a0
  have dle := hp.a1
  have dle' := hq.a1
  generalize hx : heightZ p = x at *
  generalize hy : heightZ q = y at *
  generalize hz : diffZ p q = z at *
  generalize hf : flowZ p q = f at *
  clear hx hy hz hf
  obtain ⟨a, b, c⟩ := p
  obtain ⟨a', b', c'⟩ := q
  simp only at *
  obtain ⟨m11, m12⟩ := m1
  obtain ⟨m21, m22⟩ := m2
  simp only [Pool.val] at H1 H2 ⊢
  have F00 : ∀ W, Bl ((w.alloc (.cells #[.int .i64 a, .int .i64 b, .int .i64 c] 25)).alloc (.cells #[.int .i64 a', .int .i64 b', .int .i64 c'] 25)) W → W.cell? ⟨w.heap.size, 0, none⟩ = some (.int .i64 a) := Bl.all (by go_simp)
  have F01 : ∀ W, Bl ((w.alloc (.cells #[.int .i64 a, .int .i64 b, .int .i64 c] 25)).alloc (.cells #[.int .i64 a', .int .i64 b', .int .i64 c'] 25)) W → W.cell? ⟨w.heap.size, 1, none⟩ = some (.int .i64 b) := Bl.all (by go_simp)
  have F02 : ∀ W, Bl ((w.alloc (.cells #[.int .i64 a, .int .i64 b, .int .i64 c] 25)).alloc (.cells #[.int .i64 a', .int .i64 b', .int .i64 c'] 25)) W → W.cell? ⟨w.heap.size, 2, none⟩ = some (.int .i64 c) := Bl.all (by go_simp)
  have F10 : ∀ W, Bl ((w.alloc (.cells #[.int .i64 a, .int .i64 b, .int .i64 c] 25)).alloc (.cells #[.int .i64 a', .int .i64 b', .int .i64 c'] 25)) W → W.cell? ⟨w.heap.size + 1, 0, none⟩ = some (.int .i64 a') := Bl.all (by go_simp)
  have F11 : ∀ W, Bl ((w.alloc (.cells #[.int .i64 a, .int .i64 b, .int .i64 c] 25)).alloc (.cells #[.int .i64 a', .int .i64 b', .int .i64 c'] 25)) W → W.cell? ⟨w.heap.size + 1, 1, none⟩ = some (.int .i64 b') := Bl.all (by go_simp)
  have F12 : ∀ W, Bl ((w.alloc (.cells #[.int .i64 a, .int .i64 b, .int .i64 c] 25)).alloc (.cells #[.int .i64 a', .int .i64 b', .int .i64 c'] 25)) W → W.cell? ⟨w.heap.size + 1, 2, none⟩ = some (.int .i64 c') := Bl.all (by go_simp)
  have hb := Bl.refl ((w.alloc (.cells #[.int .i64 a, .int .i64 b, .int .i64 c] 25)).alloc (.cells #[.int .i64 a', .int .i64 b', .int .i64 c'] 25))
  have hb0 : Hid (Bl w ((w.alloc (.cells #[.int .i64 a, .int .i64 b, .int .i64 c] 25)).alloc (.cells #[.int .i64 a', .int .i64 b', .int .i64 c'] 25))) := ((Bl.refl w).alloc _).alloc _
  go_enter Try.func56, Try.ntmps56
  go_wp2
  refine region_bl (by kernel_rfl) (by kernel_rfl) hb ?_
  repeat' (first | go_big_quiet_skip | (go_big_quiet_want; go_simp; (try go_bits); first | (refine ⟨_, fun _ _ => rfl, ?_⟩; go_big_quiet_on) | (apply Exists.intro; (with_reducible refine ⟨fun W hW => ret_bl hW (H1.out W), ?_⟩); go_big_quiet_on) | (apply Exists.intro; (with_reducible refine ⟨fun W hW => ret_bl hW (H2.out W), ?_⟩); go_big_quiet_on) | (apply Exists.intro; refine ⟨fun W hW => ?_, ?_⟩; (· go_simp; (try go_bits); rfl); go_big_quiet_on)))
  apply wpQuiet_nil
  intro W hb
  by_cases hz : a' * x - a * y ≤ 0
  · have HR := Lib.hid (show f = 0 by rw [HF.out, HD.out, if_pos hz])
    go_wp2
    go_ret
    exact ⟨by rw [HR.out]; rfl, hb0.out.trans hb⟩
  · have HR := Lib.hid (show f = min c ((a' * x - a * y) / (a + a')) by rw [HF.out, HD.out, if_neg hz])
    have hz' : 0 < a' * x - a * y := by omega
    have q1 : ¬ a + a' = 0 := by omega
    go_wp2
    refine region_bl (by kernel_rfl) (by kernel_rfl) hb ?_
    repeat' (first | go_big_quiet_skip | (go_big_quiet_want; go_simp; (try go_bits); first | (refine ⟨_, fun _ _ => rfl, ?_⟩; go_big_quiet_on) | (apply Exists.intro; (with_reducible refine ⟨fun W hW => ret_bl hW (same_bl (l1Least_any _ _ W)), ?_⟩); go_big_quiet_on) | (apply Exists.intro; refine ⟨fun W hW => ?_, ?_⟩; (· go_simp; (try go_bits); rfl); go_big_quiet_on)))
    apply wpQuiet_nil
    intro W hb
    go_wp2
    go_ret
    exact ⟨by rw [HR.out]; rfl, hb0.out.trans hb⟩
set_option maxHeartbeats 400000 in
theorem flowBetween_any (p q : Pool) (w : World) (hp : Ok p) (hq : Ok q) : Calls Try.prog 57 #[p.val, q.val] w fun e w' => e = .returned (.int .i64 (flowZ p q)) ∧ Bl w w' := by
  obtain ⟨a, b, c⟩ := p
  obtain ⟨a', b', c'⟩ := q
  obtain ⟨h1, h2, h3, h4, h5, h6⟩ := hp
  obtain ⟨g1, g2, g3, g4, g5, g6⟩ := hq
  simp only at *
  have m1 := mul_bd (x := b * a) (X := 200000) (mul_bd h3 h4 (by omega) h2).1 (mul_bd h3 h4 (by omega) h2).2 (by omega : 0 ≤ a') g2
  have m2 := mul_bd (x := b' * a) (X := 200000) (mul_bd g3 g4 (by omega) h2).1 (mul_bd g3 g4 (by omega) h2).2 (by omega : 0 ≤ a') g2
  have m3 := mul_bd h3 h4 (by omega : 0 ≤ a) h2
  have m4 := mul_bd g3 g4 (by omega : 0 ≤ a) h2
  have m5 := mul_bd h5 h6 (by omega : 0 ≤ a') g2
  have m6 := mul_bd g5 g6 (by omega : 0 ≤ a) h2
  have e1 : (b - b') * a = b * a - b' * a := Int.sub_mul _ _ _
  have e2 : (b - b') * a * a' = b * a * a' - b' * a * a' := by rw [e1, Int.sub_mul]
  have k1 : -200000 ≤ (b - b') * a ∧ (b - b') * a ≤ 200000 := by rw [e1]; omega
  have k2 : -20000000 ≤ (b - b') * a * a' ∧ (b - b') * a * a' ≤ 20000000 := by rw [e2]; omega
  have HR := Lib.hid (flow_same ⟨a, b, c⟩ ⟨a', b', c'⟩ h1 g1 h5)
  generalize flowZ ⟨a, b, c⟩ ⟨a', b', c'⟩ = f at *
  simp only at HR
  clear e1 e2 m1 m2 m3 m4
  obtain ⟨m51, m52⟩ := m5
  obtain ⟨m61, m62⟩ := m6
  obtain ⟨k11, k12⟩ := k1
  obtain ⟨k21, k22⟩ := k2
  have q1 : ¬ a + a' = 0 := by omega
  simp only [Pool.val]
  have F00 : ∀ W, Bl ((w.alloc (.cells #[.int .i64 a, .int .i64 b, .int .i64 c] 25)).alloc (.cells #[.int .i64 a', .int .i64 b', .int .i64 c'] 25)) W → W.cell? ⟨w.heap.size, 0, none⟩ = some (.int .i64 a) := Bl.all (by go_simp)
  have F01 : ∀ W, Bl ((w.alloc (.cells #[.int .i64 a, .int .i64 b, .int .i64 c] 25)).alloc (.cells #[.int .i64 a', .int .i64 b', .int .i64 c'] 25)) W → W.cell? ⟨w.heap.size, 1, none⟩ = some (.int .i64 b) := Bl.all (by go_simp)
  have F02 : ∀ W, Bl ((w.alloc (.cells #[.int .i64 a, .int .i64 b, .int .i64 c] 25)).alloc (.cells #[.int .i64 a', .int .i64 b', .int .i64 c'] 25)) W → W.cell? ⟨w.heap.size, 2, none⟩ = some (.int .i64 c) := Bl.all (by go_simp)
  have F10 : ∀ W, Bl ((w.alloc (.cells #[.int .i64 a, .int .i64 b, .int .i64 c] 25)).alloc (.cells #[.int .i64 a', .int .i64 b', .int .i64 c'] 25)) W → W.cell? ⟨w.heap.size + 1, 0, none⟩ = some (.int .i64 a') := Bl.all (by go_simp)
  have F11 : ∀ W, Bl ((w.alloc (.cells #[.int .i64 a, .int .i64 b, .int .i64 c] 25)).alloc (.cells #[.int .i64 a', .int .i64 b', .int .i64 c'] 25)) W → W.cell? ⟨w.heap.size + 1, 1, none⟩ = some (.int .i64 b') := Bl.all (by go_simp)
  have F12 : ∀ W, Bl ((w.alloc (.cells #[.int .i64 a, .int .i64 b, .int .i64 c] 25)).alloc (.cells #[.int .i64 a', .int .i64 b', .int .i64 c'] 25)) W → W.cell? ⟨w.heap.size + 1, 2, none⟩ = some (.int .i64 c') := Bl.all (by go_simp)
  have hb := Bl.refl ((w.alloc (.cells #[.int .i64 a, .int .i64 b, .int .i64 c] 25)).alloc (.cells #[.int .i64 a', .int .i64 b', .int .i64 c'] 25))
  have hb0 : Hid (Bl w ((w.alloc (.cells #[.int .i64 a, .int .i64 b, .int .i64 c] 25)).alloc (.cells #[.int .i64 a', .int .i64 b', .int .i64 c'] 25))) := ((Bl.refl w).alloc _).alloc _
  go_enter Try.func57, Try.ntmps57
  go_wp2
  refine region_bl (by kernel_rfl) (by kernel_rfl) hb ?_
  repeat' (first | go_big_quiet_skip | (go_big_quiet_want; go_simp; (try go_bits); first | (refine ⟨_, fun _ _ => rfl, ?_⟩; go_big_quiet_on) | (apply Exists.intro; refine ⟨fun W hW => ?_, ?_⟩; (· go_simp; (try go_bits); rfl); go_big_quiet_on)))
  apply wpQuiet_nil
  intro W hb
  simp only [ite_min, ite_max]
  go_wp2
  go_ret
  exact ⟨by rw [HR.out]; rfl, hb0.out.trans hb⟩
/-- What FlowBetween hands back. -/
def flowBetweenR (p q : Pool) : Int × Bool := if validPool p = true ∧ validPool q = true then (flowZ p q, true) else (0, false)
set_option maxHeartbeats 400000 in
theorem implFlowBetween_any (p q : Pool) (w : World) : Calls Try.prog 19 #[p.val, q.val] w fun e w' => e = .returned (.tuple #[.int .i64 (flowBetweenR p q).1, .bool (flowBetweenR p q).2]) ∧ Bl w w' := by
  have H1 := Lib.hid (fun w => implIsValidPool_any p w)
  have H2 := Lib.hid (fun w => implIsValidPool_any q w)
  cases h1 : validPool p
  · have HR : Hid (flowBetweenR p q = (0, false)) := by show _ = _; simp [flowBetweenR, h1]
    generalize flowBetweenR p q = r at *
    obtain ⟨a, b, c⟩ := p
    obtain ⟨a', b', c'⟩ := q
    simp only [Pool.val] at H1 H2 ⊢
    have F00 : ∀ W, Bl ((w.alloc (.cells #[.int .i64 a, .int .i64 b, .int .i64 c] 25)).alloc (.cells #[.int .i64 a', .int .i64 b', .int .i64 c'] 25)) W → W.cell? ⟨w.heap.size, 0, none⟩ = some (.int .i64 a) := Bl.all (by go_simp)
    have F01 : ∀ W, Bl ((w.alloc (.cells #[.int .i64 a, .int .i64 b, .int .i64 c] 25)).alloc (.cells #[.int .i64 a', .int .i64 b', .int .i64 c'] 25)) W → W.cell? ⟨w.heap.size, 1, none⟩ = some (.int .i64 b) := Bl.all (by go_simp)
    have F02 : ∀ W, Bl ((w.alloc (.cells #[.int .i64 a, .int .i64 b, .int .i64 c] 25)).alloc (.cells #[.int .i64 a', .int .i64 b', .int .i64 c'] 25)) W → W.cell? ⟨w.heap.size, 2, none⟩ = some (.int .i64 c) := Bl.all (by go_simp)
    have F10 : ∀ W, Bl ((w.alloc (.cells #[.int .i64 a, .int .i64 b, .int .i64 c] 25)).alloc (.cells #[.int .i64 a', .int .i64 b', .int .i64 c'] 25)) W → W.cell? ⟨w.heap.size + 1, 0, none⟩ = some (.int .i64 a') := Bl.all (by go_simp)
    have F11 : ∀ W, Bl ((w.alloc (.cells #[.int .i64 a, .int .i64 b, .int .i64 c] 25)).alloc (.cells #[.int .i64 a', .int .i64 b', .int .i64 c'] 25)) W → W.cell? ⟨w.heap.size + 1, 1, none⟩ = some (.int .i64 b') := Bl.all (by go_simp)
    have F12 : ∀ W, Bl ((w.alloc (.cells #[.int .i64 a, .int .i64 b, .int .i64 c] 25)).alloc (.cells #[.int .i64 a', .int .i64 b', .int .i64 c'] 25)) W → W.cell? ⟨w.heap.size + 1, 2, none⟩ = some (.int .i64 c') := Bl.all (by go_simp)
    have hb := Bl.refl ((w.alloc (.cells #[.int .i64 a, .int .i64 b, .int .i64 c] 25)).alloc (.cells #[.int .i64 a', .int .i64 b', .int .i64 c'] 25))
    have hb0 : Hid (Bl w ((w.alloc (.cells #[.int .i64 a, .int .i64 b, .int .i64 c] 25)).alloc (.cells #[.int .i64 a', .int .i64 b', .int .i64 c'] 25))) := ((Bl.refl w).alloc _).alloc _
    go_enter Try.func19, Try.ntmps19
    go_wp2_with fail
    refine (H1.out _).mono ?_
    rintro e w' ⟨rfl, hbn⟩
    have hb := hb.trans hbn
    clear hbn
    simp only [h1]
    go_wp2_with fail
    go_ret2
    exact ⟨by rw [HR.out]; rfl, hb0.out.trans hb⟩
  · cases h2 : validPool q
    · have HR : Hid (flowBetweenR p q = (0, false)) := by show _ = _; simp [flowBetweenR, h2]
      generalize flowBetweenR p q = r at *
      obtain ⟨a, b, c⟩ := p
      obtain ⟨a', b', c'⟩ := q
      simp only [Pool.val] at H1 H2 ⊢
      have F00 : ∀ W, Bl ((w.alloc (.cells #[.int .i64 a, .int .i64 b, .int .i64 c] 25)).alloc (.cells #[.int .i64 a', .int .i64 b', .int .i64 c'] 25)) W → W.cell? ⟨w.heap.size, 0, none⟩ = some (.int .i64 a) := Bl.all (by go_simp)
      have F01 : ∀ W, Bl ((w.alloc (.cells #[.int .i64 a, .int .i64 b, .int .i64 c] 25)).alloc (.cells #[.int .i64 a', .int .i64 b', .int .i64 c'] 25)) W → W.cell? ⟨w.heap.size, 1, none⟩ = some (.int .i64 b) := Bl.all (by go_simp)
      have F02 : ∀ W, Bl ((w.alloc (.cells #[.int .i64 a, .int .i64 b, .int .i64 c] 25)).alloc (.cells #[.int .i64 a', .int .i64 b', .int .i64 c'] 25)) W → W.cell? ⟨w.heap.size, 2, none⟩ = some (.int .i64 c) := Bl.all (by go_simp)
      have F10 : ∀ W, Bl ((w.alloc (.cells #[.int .i64 a, .int .i64 b, .int .i64 c] 25)).alloc (.cells #[.int .i64 a', .int .i64 b', .int .i64 c'] 25)) W → W.cell? ⟨w.heap.size + 1, 0, none⟩ = some (.int .i64 a') := Bl.all (by go_simp)
      have F11 : ∀ W, Bl ((w.alloc (.cells #[.int .i64 a, .int .i64 b, .int .i64 c] 25)).alloc (.cells #[.int .i64 a', .int .i64 b', .int .i64 c'] 25)) W → W.cell? ⟨w.heap.size + 1, 1, none⟩ = some (.int .i64 b') := Bl.all (by go_simp)
      have F12 : ∀ W, Bl ((w.alloc (.cells #[.int .i64 a, .int .i64 b, .int .i64 c] 25)).alloc (.cells #[.int .i64 a', .int .i64 b', .int .i64 c'] 25)) W → W.cell? ⟨w.heap.size + 1, 2, none⟩ = some (.int .i64 c') := Bl.all (by go_simp)
      have hb := Bl.refl ((w.alloc (.cells #[.int .i64 a, .int .i64 b, .int .i64 c] 25)).alloc (.cells #[.int .i64 a', .int .i64 b', .int .i64 c'] 25))
      have hb0 : Hid (Bl w ((w.alloc (.cells #[.int .i64 a, .int .i64 b, .int .i64 c] 25)).alloc (.cells #[.int .i64 a', .int .i64 b', .int .i64 c'] 25))) := ((Bl.refl w).alloc _).alloc _
      go_enter Try.func19, Try.ntmps19
      go_wp2_with fail
      refine (H1.out _).mono ?_
      rintro e w' ⟨rfl, hbn⟩
      have hb := hb.trans hbn
      clear hbn
      simp only [h1]
      go_wp2_with fail
      refine (H2.out _).mono ?_
      rintro e w' ⟨rfl, hbn⟩
      have hb := hb.trans hbn
      clear hbn
      simp only [h2]
      go_wp2_with fail
      go_ret2
      exact ⟨by rw [HR.out]; rfl, hb0.out.trans hb⟩
    · have HR : Hid (flowBetweenR p q = (flowZ p q, true)) := by show _ = _; simp [flowBetweenR, h1, h2]
      have H3 := Lib.hid (fun w => flowBetween_any p q w (ok_of_valid h1) (ok_of_valid h2))
      generalize flowBetweenR p q = r at *
      generalize flowZ p q = z at *
      obtain ⟨a, b, c⟩ := p
      obtain ⟨a', b', c'⟩ := q
      simp only [Pool.val] at H1 H2 H3 ⊢
      have F00 : ∀ W, Bl ((w.alloc (.cells #[.int .i64 a, .int .i64 b, .int .i64 c] 25)).alloc (.cells #[.int .i64 a', .int .i64 b', .int .i64 c'] 25)) W → W.cell? ⟨w.heap.size, 0, none⟩ = some (.int .i64 a) := Bl.all (by go_simp)
      have F01 : ∀ W, Bl ((w.alloc (.cells #[.int .i64 a, .int .i64 b, .int .i64 c] 25)).alloc (.cells #[.int .i64 a', .int .i64 b', .int .i64 c'] 25)) W → W.cell? ⟨w.heap.size, 1, none⟩ = some (.int .i64 b) := Bl.all (by go_simp)
      have F02 : ∀ W, Bl ((w.alloc (.cells #[.int .i64 a, .int .i64 b, .int .i64 c] 25)).alloc (.cells #[.int .i64 a', .int .i64 b', .int .i64 c'] 25)) W → W.cell? ⟨w.heap.size, 2, none⟩ = some (.int .i64 c) := Bl.all (by go_simp)
      have F10 : ∀ W, Bl ((w.alloc (.cells #[.int .i64 a, .int .i64 b, .int .i64 c] 25)).alloc (.cells #[.int .i64 a', .int .i64 b', .int .i64 c'] 25)) W → W.cell? ⟨w.heap.size + 1, 0, none⟩ = some (.int .i64 a') := Bl.all (by go_simp)
      have F11 : ∀ W, Bl ((w.alloc (.cells #[.int .i64 a, .int .i64 b, .int .i64 c] 25)).alloc (.cells #[.int .i64 a', .int .i64 b', .int .i64 c'] 25)) W → W.cell? ⟨w.heap.size + 1, 1, none⟩ = some (.int .i64 b') := Bl.all (by go_simp)
      have F12 : ∀ W, Bl ((w.alloc (.cells #[.int .i64 a, .int .i64 b, .int .i64 c] 25)).alloc (.cells #[.int .i64 a', .int .i64 b', .int .i64 c'] 25)) W → W.cell? ⟨w.heap.size + 1, 2, none⟩ = some (.int .i64 c') := Bl.all (by go_simp)
      have hb := Bl.refl ((w.alloc (.cells #[.int .i64 a, .int .i64 b, .int .i64 c] 25)).alloc (.cells #[.int .i64 a', .int .i64 b', .int .i64 c'] 25))
      have hb0 : Hid (Bl w ((w.alloc (.cells #[.int .i64 a, .int .i64 b, .int .i64 c] 25)).alloc (.cells #[.int .i64 a', .int .i64 b', .int .i64 c'] 25))) := ((Bl.refl w).alloc _).alloc _
      go_enter Try.func19, Try.ntmps19
      go_wp2_with fail
      refine (H1.out _).mono ?_
      rintro e w' ⟨rfl, hbn⟩
      have hb := hb.trans hbn
      clear hbn
      simp only [h1]
      go_wp2_with fail
      refine (H2.out _).mono ?_
      rintro e w' ⟨rfl, hbn⟩
      have hb := hb.trans hbn
      clear hbn
      simp only [h2]
      go_wp2_with fail
      refine (H3.out _).mono ?_
      rintro e w' ⟨rfl, hbn⟩
      have hb := hb.trans hbn
      clear hbn
      go_wp2_with fail
      go_ret2
      exact ⟨by rw [HR.out]; rfl, hb0.out.trans hb⟩
set_option maxHeartbeats 400000 in
theorem specFlowBetween_any (p q : Pool) (w : World) : Calls Try.prog 18 #[p.val, q.val] w fun e w' => e = .returned (.tuple #[.int .i64 (flowBetweenR p q).1, .bool (flowBetweenR p q).2]) ∧ Bl w w' := by
  have H1 := Lib.hid (fun w => l11Good_any p w)
  have H2 := Lib.hid (fun w => l11Good_any q w)
  cases h1 : validPool p
  · have HR : Hid (flowBetweenR p q = (0, false)) := by show _ = _; simp [flowBetweenR, h1]
    generalize flowBetweenR p q = r at *
    obtain ⟨a, b, c⟩ := p
    obtain ⟨a', b', c'⟩ := q
    simp only [Pool.val] at H1 H2 ⊢
    have F00 : ∀ W, Bl ((w.alloc (.cells #[.int .i64 a, .int .i64 b, .int .i64 c] 25)).alloc (.cells #[.int .i64 a', .int .i64 b', .int .i64 c'] 25)) W → W.cell? ⟨w.heap.size, 0, none⟩ = some (.int .i64 a) := Bl.all (by go_simp)
    have F01 : ∀ W, Bl ((w.alloc (.cells #[.int .i64 a, .int .i64 b, .int .i64 c] 25)).alloc (.cells #[.int .i64 a', .int .i64 b', .int .i64 c'] 25)) W → W.cell? ⟨w.heap.size, 1, none⟩ = some (.int .i64 b) := Bl.all (by go_simp)
    have F02 : ∀ W, Bl ((w.alloc (.cells #[.int .i64 a, .int .i64 b, .int .i64 c] 25)).alloc (.cells #[.int .i64 a', .int .i64 b', .int .i64 c'] 25)) W → W.cell? ⟨w.heap.size, 2, none⟩ = some (.int .i64 c) := Bl.all (by go_simp)
    have F10 : ∀ W, Bl ((w.alloc (.cells #[.int .i64 a, .int .i64 b, .int .i64 c] 25)).alloc (.cells #[.int .i64 a', .int .i64 b', .int .i64 c'] 25)) W → W.cell? ⟨w.heap.size + 1, 0, none⟩ = some (.int .i64 a') := Bl.all (by go_simp)
    have F11 : ∀ W, Bl ((w.alloc (.cells #[.int .i64 a, .int .i64 b, .int .i64 c] 25)).alloc (.cells #[.int .i64 a', .int .i64 b', .int .i64 c'] 25)) W → W.cell? ⟨w.heap.size + 1, 1, none⟩ = some (.int .i64 b') := Bl.all (by go_simp)
    have F12 : ∀ W, Bl ((w.alloc (.cells #[.int .i64 a, .int .i64 b, .int .i64 c] 25)).alloc (.cells #[.int .i64 a', .int .i64 b', .int .i64 c'] 25)) W → W.cell? ⟨w.heap.size + 1, 2, none⟩ = some (.int .i64 c') := Bl.all (by go_simp)
    have hb := Bl.refl ((w.alloc (.cells #[.int .i64 a, .int .i64 b, .int .i64 c] 25)).alloc (.cells #[.int .i64 a', .int .i64 b', .int .i64 c'] 25))
    have hb0 : Hid (Bl w ((w.alloc (.cells #[.int .i64 a, .int .i64 b, .int .i64 c] 25)).alloc (.cells #[.int .i64 a', .int .i64 b', .int .i64 c'] 25))) := ((Bl.refl w).alloc _).alloc _
    go_enter Try.func18, Try.ntmps18
    go_wp2_with fail
    refine (H1.out _).mono ?_
    rintro e w' ⟨rfl, hbn⟩
    have hb := hb.trans hbn
    clear hbn
    simp only [h1]
    go_wp2_with fail
    go_ret2
    exact ⟨by rw [HR.out]; rfl, hb0.out.trans hb⟩
  · cases h2 : validPool q
    · have HR : Hid (flowBetweenR p q = (0, false)) := by show _ = _; simp [flowBetweenR, h2]
      generalize flowBetweenR p q = r at *
      obtain ⟨a, b, c⟩ := p
      obtain ⟨a', b', c'⟩ := q
      simp only [Pool.val] at H1 H2 ⊢
      have F00 : ∀ W, Bl ((w.alloc (.cells #[.int .i64 a, .int .i64 b, .int .i64 c] 25)).alloc (.cells #[.int .i64 a', .int .i64 b', .int .i64 c'] 25)) W → W.cell? ⟨w.heap.size, 0, none⟩ = some (.int .i64 a) := Bl.all (by go_simp)
      have F01 : ∀ W, Bl ((w.alloc (.cells #[.int .i64 a, .int .i64 b, .int .i64 c] 25)).alloc (.cells #[.int .i64 a', .int .i64 b', .int .i64 c'] 25)) W → W.cell? ⟨w.heap.size, 1, none⟩ = some (.int .i64 b) := Bl.all (by go_simp)
      have F02 : ∀ W, Bl ((w.alloc (.cells #[.int .i64 a, .int .i64 b, .int .i64 c] 25)).alloc (.cells #[.int .i64 a', .int .i64 b', .int .i64 c'] 25)) W → W.cell? ⟨w.heap.size, 2, none⟩ = some (.int .i64 c) := Bl.all (by go_simp)
      have F10 : ∀ W, Bl ((w.alloc (.cells #[.int .i64 a, .int .i64 b, .int .i64 c] 25)).alloc (.cells #[.int .i64 a', .int .i64 b', .int .i64 c'] 25)) W → W.cell? ⟨w.heap.size + 1, 0, none⟩ = some (.int .i64 a') := Bl.all (by go_simp)
      have F11 : ∀ W, Bl ((w.alloc (.cells #[.int .i64 a, .int .i64 b, .int .i64 c] 25)).alloc (.cells #[.int .i64 a', .int .i64 b', .int .i64 c'] 25)) W → W.cell? ⟨w.heap.size + 1, 1, none⟩ = some (.int .i64 b') := Bl.all (by go_simp)
      have F12 : ∀ W, Bl ((w.alloc (.cells #[.int .i64 a, .int .i64 b, .int .i64 c] 25)).alloc (.cells #[.int .i64 a', .int .i64 b', .int .i64 c'] 25)) W → W.cell? ⟨w.heap.size + 1, 2, none⟩ = some (.int .i64 c') := Bl.all (by go_simp)
      have hb := Bl.refl ((w.alloc (.cells #[.int .i64 a, .int .i64 b, .int .i64 c] 25)).alloc (.cells #[.int .i64 a', .int .i64 b', .int .i64 c'] 25))
      have hb0 : Hid (Bl w ((w.alloc (.cells #[.int .i64 a, .int .i64 b, .int .i64 c] 25)).alloc (.cells #[.int .i64 a', .int .i64 b', .int .i64 c'] 25))) := ((Bl.refl w).alloc _).alloc _
      go_enter Try.func18, Try.ntmps18
      go_wp2_with fail
      refine (H1.out _).mono ?_
      rintro e w' ⟨rfl, hbn⟩
      have hb := hb.trans hbn
      clear hbn
      simp only [h1]
      go_wp2_with fail
      refine (H2.out _).mono ?_
      rintro e w' ⟨rfl, hbn⟩
      have hb := hb.trans hbn
      clear hbn
      simp only [h2]
      go_wp2_with fail
      go_ret2
      exact ⟨by rw [HR.out]; rfl, hb0.out.trans hb⟩
    · have HR : Hid (flowBetweenR p q = (flowZ p q, true)) := by show _ = _; simp [flowBetweenR, h1, h2]
      have H3 := Lib.hid (fun w => l11Flow_any p q w (ok_of_valid h1) (ok_of_valid h2))
      generalize flowBetweenR p q = r at *
      generalize flowZ p q = z at *
      obtain ⟨a, b, c⟩ := p
      obtain ⟨a', b', c'⟩ := q
      simp only [Pool.val] at H1 H2 H3 ⊢
      have F00 : ∀ W, Bl ((w.alloc (.cells #[.int .i64 a, .int .i64 b, .int .i64 c] 25)).alloc (.cells #[.int .i64 a', .int .i64 b', .int .i64 c'] 25)) W → W.cell? ⟨w.heap.size, 0, none⟩ = some (.int .i64 a) := Bl.all (by go_simp)
      have F01 : ∀ W, Bl ((w.alloc (.cells #[.int .i64 a, .int .i64 b, .int .i64 c] 25)).alloc (.cells #[.int .i64 a', .int .i64 b', .int .i64 c'] 25)) W → W.cell? ⟨w.heap.size, 1, none⟩ = some (.int .i64 b) := Bl.all (by go_simp)
      have F02 : ∀ W, Bl ((w.alloc (.cells #[.int .i64 a, .int .i64 b, .int .i64 c] 25)).alloc (.cells #[.int .i64 a', .int .i64 b', .int .i64 c'] 25)) W → W.cell? ⟨w.heap.size, 2, none⟩ = some (.int .i64 c) := Bl.all (by go_simp)
      have F10 : ∀ W, Bl ((w.alloc (.cells #[.int .i64 a, .int .i64 b, .int .i64 c] 25)).alloc (.cells #[.int .i64 a', .int .i64 b', .int .i64 c'] 25)) W → W.cell? ⟨w.heap.size + 1, 0, none⟩ = some (.int .i64 a') := Bl.all (by go_simp)
      have F11 : ∀ W, Bl ((w.alloc (.cells #[.int .i64 a, .int .i64 b, .int .i64 c] 25)).alloc (.cells #[.int .i64 a', .int .i64 b', .int .i64 c'] 25)) W → W.cell? ⟨w.heap.size + 1, 1, none⟩ = some (.int .i64 b') := Bl.all (by go_simp)
      have F12 : ∀ W, Bl ((w.alloc (.cells #[.int .i64 a, .int .i64 b, .int .i64 c] 25)).alloc (.cells #[.int .i64 a', .int .i64 b', .int .i64 c'] 25)) W → W.cell? ⟨w.heap.size + 1, 2, none⟩ = some (.int .i64 c') := Bl.all (by go_simp)
      have hb := Bl.refl ((w.alloc (.cells #[.int .i64 a, .int .i64 b, .int .i64 c] 25)).alloc (.cells #[.int .i64 a', .int .i64 b', .int .i64 c'] 25))
      have hb0 : Hid (Bl w ((w.alloc (.cells #[.int .i64 a, .int .i64 b, .int .i64 c] 25)).alloc (.cells #[.int .i64 a', .int .i64 b', .int .i64 c'] 25))) := ((Bl.refl w).alloc _).alloc _
      go_enter Try.func18, Try.ntmps18
      go_wp2_with fail
      refine (H1.out _).mono ?_
      rintro e w' ⟨rfl, hbn⟩
      have hb := hb.trans hbn
      clear hbn
      simp only [h1]
      go_wp2_with fail
      refine (H2.out _).mono ?_
      rintro e w' ⟨rfl, hbn⟩
      have hb := hb.trans hbn
      clear hbn
      simp only [h2]
      go_wp2_with fail
      refine (H3.out _).mono ?_
      rintro e w' ⟨rfl, hbn⟩
      have hb := hb.trans hbn
      clear hbn
      go_wp2_with fail
      go_ret2
      exact ⟨by rw [HR.out]; rfl, hb0.out.trans hb⟩
/-! ### levels -/
def levelR (p : Pool) : Int × Int × Bool := if validPool p = true then (heightZ p / (Nat.gcd (heightZ p).toNat p.Area.toNat : Int), p.Area / (Nat.gcd (heightZ p).toNat p.Area.toNat : Int), true) else (0, 0, false)
set_option maxHeartbeats 400000 in
theorem l11Reduce_any (x y : Nat) (w : World) (hx : x ≤ 1000000000) (hy : 1 ≤ y) (hy' : y ≤ 1000000000) : Calls Try.prog 58 #[.int .i64 x, .int .i64 y] w fun e w' => e = .returned (.tuple #[.int .i64 ((x : Int) / (Nat.gcd x y : Int)), .int .i64 ((y : Int) / (Nat.gcd x y : Int))]) ∧ Bl w w' := by
  have hg : 0 < Nat.gcd x y := Nat.gcd_pos_of_pos_right _ hy
  go_enter Try.func58, Try.ntmps58
  go_wp2
  go_loop [6, 7] (fun u v => ∃ a b : Nat, u = .int .i64 a ∧ v = .int .i64 b ∧ a ≤ 1000000000 ∧ b ≤ 1000000000 ∧ Hid (Nat.gcd a b = Nat.gcd x y)) (fun _ v => (intOf v).toNat)
  case atStart => exact ⟨x, y, rfl, rfl, hx, hy', rfl⟩
  case round =>
    obtain ⟨a, b, rfl, rfl, ha, hb, hgab⟩ := hrel
    by_cases h0 : b = 0
    · subst h0
      have e : a = Nat.gcd x y := by have := hgab.out; rwa [Nat.gcd_zero_right] at this
      have hpos : 0 < a := by omega
      have HE := Lib.hid e
      clear hgab e
      obtain ⟨d1, d2⟩ := IntWalk.tdiv_le (x : Int) (a : Int) (by omega) (by omega)
      obtain ⟨d3, d4⟩ := IntWalk.tdiv_le (y : Int) (a : Int) (by omega) (by omega)
      have q1 : ¬ (a : Int) = 0 := by omega
      have q2 : ¬ a = 0 := by omega
      go_wp2
      refine region_bl (by kernel_rfl) (by kernel_rfl) (Bl.refl w) ?_
      repeat' (first | go_big_quiet_skip | (go_big_quiet_want; go_simp; (try go_bits); first | (refine ⟨_, fun _ _ => rfl, ?_⟩; go_big_quiet_on) | (apply Exists.intro; refine ⟨fun W hW => ?_, ?_⟩; (· go_simp; (try go_bits); rfl); go_big_quiet_on)))
      apply wpQuiet_nil
      intro W hb
      go_wp2
      go_ret2
      exact ⟨by rw [← HE.out]; rfl, hb⟩
    · have q0 : ((b : Int) == 0) = false := by simp; omega
      have q1 : ¬ (b : Int) = 0 := by omega
      have q2 : ¬ b = 0 := h0
      have hl : a % b < b := Nat.mod_lt _ (by omega)
      go_wp2
      first | exact ⟨⟨b, a % b, rfl, by go_num, hb, by omega, by show Nat.gcd b (a % b) = _; rw [← hgab.out, Nat.gcd_comm a b, Nat.gcd_rec b a, Nat.gcd_comm]⟩, by simp [intOf]; omega⟩ | (refine ⟨?_, by simp [intOf]; omega⟩; (repeat apply Exists.intro); exact ⟨⟨b, a % b, rfl, by go_num, hb, by omega, by show Nat.gcd b (a % b) = _; rw [← hgab.out, Nat.gcd_comm a b, Nat.gcd_rec b a, Nat.gcd_comm]⟩, rfl⟩)
set_option maxHeartbeats 400000 in
theorem absOf_any (x : Nat) (w : World) (hx : x ≤ 1000000000) : Calls Try.prog 90 #[.int .i64 x] w fun e w' => e = .returned (.int .i64 x) ∧ w = w' := by
  go_enter Try.func90, Try.ntmps90
  go_wp2
  go_ret
  exact ⟨rfl, rfl⟩
set_option maxHeartbeats 400000 in
theorem gcdOf_any (x y : Nat) (w : World) (hx : x ≤ 1000000000) (hy : y ≤ 1000000000) : Calls Try.prog 80 #[.int .i64 x, .int .i64 y] w fun e w' => e = .returned (.int .i64 (Nat.gcd x y)) ∧ Bl w w' := by
  have H1 := Lib.hid (fun w => same_bl (absOf_any x w hx))
  have H2 := Lib.hid (fun w => same_bl (absOf_any y w hy))
  have hb := Bl.refl w
  go_enter Try.func80, Try.ntmps80
  go_wp2_with fail
  refine (H1.out _).mono ?_
  rintro e w' ⟨rfl, hbn⟩
  have hb := hb.trans hbn
  clear hbn
  go_wp2_with fail
  refine (H2.out _).mono ?_
  rintro e w' ⟨rfl, hbn⟩
  have hb := hb.trans hbn
  clear hbn
  go_wp2_with fail
  go_loopw [0, 1] (fun u v wr => ∃ a b : Nat, u = .int .i64 a ∧ v = .int .i64 b ∧ a ≤ 1000000000 ∧ b ≤ 1000000000 ∧ Hid (Nat.gcd a b = Nat.gcd x y) ∧ Bl w wr) (fun _ v _ => (intOf v).toNat)
  case atStart => exact ⟨x, y, rfl, rfl, hx, hy, rfl, hb⟩
  case round =>
    obtain ⟨a, b, rfl, rfl, ha, hb', hgab, hbl⟩ := hrel
    by_cases h0 : b = 0
    · subst h0
      have e : a = Nat.gcd x y := by have := hgab.out; rwa [Nat.gcd_zero_right] at this
      have HE := Lib.hid e
      clear hgab e
      go_wp2
      go_ret
      exact ⟨by rw [← HE.out]; rfl, hbl⟩
    · have q0 : ((b : Int) == 0) = false := by simp; omega
      have q1 : ¬ (b : Int) = 0 := by omega
      have q2 : ¬ b = 0 := h0
      have hl : a % b < b := Nat.mod_lt _ (by omega)
      go_wp2
      refine region_bl (by kernel_rfl) (by kernel_rfl) hbl ?_
      repeat' (first | go_big_quiet_skip | (go_big_quiet_want; go_simp; (try go_bits); first | (refine ⟨_, fun _ _ => rfl, ?_⟩; go_big_quiet_on) | (apply Exists.intro; refine ⟨fun W hW => ?_, ?_⟩; (· go_simp; (try go_bits); rfl); go_big_quiet_on)))
      apply wpQuiet_nil
      intro W hb
      go_wp2
      first | exact ⟨⟨b, a % b, rfl, by go_num, hb', by omega, by show Nat.gcd b (a % b) = _; rw [← hgab.out, Nat.gcd_comm a b, Nat.gcd_rec b a, Nat.gcd_comm], hb⟩, by simp [intOf]; omega⟩ | (refine ⟨?_, by simp [intOf]; omega⟩; (repeat apply Exists.intro); exact ⟨⟨b, a % b, rfl, by go_num, hb', by omega, by show Nat.gcd b (a % b) = _; rw [← hgab.out, Nat.gcd_comm a b, Nat.gcd_rec b a, Nat.gcd_comm], hb⟩, rfl⟩)
set_option maxHeartbeats 400000 in
theorem lowestTerms_any (x y : Nat) (w : World) (hx : x ≤ 1000000000) (hy : 1 ≤ y) (hy' : y ≤ 1000000000) : Calls Try.prog 60 #[.int .i64 x, .int .i64 y] w fun e w' => e = .returned (.tuple #[.int .i64 ((x : Int) / (Nat.gcd x y : Int)), .int .i64 ((y : Int) / (Nat.gcd x y : Int))]) ∧ Bl w w' := by
  have H1 := Lib.hid (fun w => gcdOf_any x y w hx hy')
  have hg : 0 < Nat.gcd x y := Nat.gcd_pos_of_pos_right _ hy
  have q1 : ¬ ((Nat.gcd x y : Nat) : Int) = 0 := by omega
  have q2 : ¬ Nat.gcd x y = 0 := by omega
  obtain ⟨d1, d2⟩ := IntWalk.tdiv_le (x : Int) (Nat.gcd x y : Int) (by omega) (by omega)
  obtain ⟨d3, d4⟩ := IntWalk.tdiv_le (y : Int) (Nat.gcd x y : Int) (by omega) (by omega)
  have hb := Bl.refl w
  generalize Nat.gcd x y = g at *
  go_enter Try.func60, Try.ntmps60
  go_wp2_with fail
  refine (H1.out _).mono ?_
  rintro e w' ⟨rfl, hbn⟩
  have hb := hb.trans hbn
  clear hbn
  go_wp2_with fail
  refine region_bl (by kernel_rfl) (by kernel_rfl) hb ?_
  repeat' (first | go_big_quiet_skip | (go_big_quiet_want; go_simp; (try go_bits); first | (refine ⟨_, fun _ _ => rfl, ?_⟩; go_big_quiet_on) | (apply Exists.intro; refine ⟨fun W hW => ?_, ?_⟩; (· go_simp; (try go_bits); rfl); go_big_quiet_on)))
  apply wpQuiet_nil
  intro W hb
  go_wp2
  go_ret2
  exact ⟨rfl, hb⟩
end Go.Proofs.Yteejalanjeeecaa
