/- The contracts of IsPumpTask in both programs. -/
import Derived.Test.YtmnbbnboaokgjaaP12
import Derived.Test.YtmnbbnboaokgjaaL1
import Derived.OneCell
namespace Go.Proofs.Ytmnbbnboaokgjaa
open Go.RowKit
def vPump (p : Pump) : Bool := inB p.Rate 1 50 && inB p.Cost 0 20 && inB p.Start 0 50
def taskR (lo hi lv : Int) (fl : List Int) (pl : List Pump) : Bool :=
  decide (0 ≤ lo) && (decide (lo ≤ lv) && (decide (lv ≤ hi) && (decide (hi ≤ 500) && (inB (fl.length : Int) 1 5 && (decide (pl.length ≤ 2) && ((fl.all fun x => inB x (-50) 50) && pl.all vPump))))))
/-- A predicate of Int handed over as a function value. -/
def PredInt (g : FuncId) (f : Int → Bool) : Prop := ∀ (p : Int) (w : World), Calls Try.prog g #[.int .i64 p] w fun e w' => e = .returned (.bool (f p)) ∧ Bl w w'
set_option maxHeartbeats 400000 in
theorem indexFuncInt_any (g : FuncId) (f : Int → Bool) (hf : PredInt g f) (heg : Enters Try.prog g) (A : Option Addr) (n c : Nat) (l : List Int) (w : World) (h : Sl ci 1 w A n l) :
    Calls Try.prog 104 #[.slice A n c, .func (.func g) #[] #[]] w fun e w' => (∃ i : Int, e = .returned (.int .i64 i) ∧ decide (0 ≤ i) = l.any f) ∧ Bl w w' := by
  have bn := h.le
  have HL := Lib.hid h.1
  have eg : ∀ args w, (callFunc g args).run Try.prog w = .ok (.enter g args) w := heg
  clear heg
  go_enter Try.func104, Try.ntmps104
  go_wp2
  go_loopw [8] (fun i wr => ∃ k : Nat, k ≤ n ∧ i = .int .i64 k ∧ Bl w wr ∧ Hid ((l.take k).any f = false)) (fun i _ => n - (intOf i).toNat)
  case atStart => exact ⟨0, Nat.zero_le _, rfl, Bl.refl _, rfl⟩
  case round =>
    obtain ⟨k, hk, rfl, hb, he⟩ := hrel
    by_cases hlt : k < n
    · obtain ⟨b1, o1, p1, rfl, e1, c11⟩ := h.int hlt
      have E1 := Lib.hid e1; clear e1
      have H1 := Lib.hid (fun w => hf p1 w)
      cases hv : f p1
      · go_wp2_with fail
        refine (H1.out _).mono ?_
        rintro e w' ⟨rfl, hbn⟩
        have hb := hb.trans hbn
        clear hbn
        simp only [hv]
        go_wp2_with fail
        first | exact ⟨⟨k + 1, by omega, by go_num, hb, by show _ = _; rw [take_one E1.out, List.any_append, he.out]; simp [hv]⟩, by simp [intOf]; omega⟩ | (refine ⟨?_, by simp [intOf]; omega⟩; (repeat apply Exists.intro); exact ⟨⟨k + 1, by omega, by go_num, hb, by show _ = _; rw [take_one E1.out, List.any_append, he.out]; simp [hv]⟩, rfl⟩)
      · go_wp2_with fail
        refine (H1.out _).mono ?_
        rintro e w' ⟨rfl, hbn⟩
        have hb := hb.trans hbn
        clear hbn
        simp only [hv]
        go_wp2_with fail
        go_ret
        exact ⟨⟨k, rfl, by rw [List.any_eq_true.2 ⟨p1, List.mem_of_getElem? E1.out, hv⟩]; simp⟩, hb⟩
    · have e : k = n := by omega
      subst e
      go_wp2_with fail
      go_ret
      exact ⟨⟨-1, rfl, by have := he.out; rw [take_all HL.out] at this; rw [this]; rfl⟩, hb⟩
set_option maxHeartbeats 400000 in
theorem containsFuncInt_any (g : FuncId) (f : Int → Bool) (hf : PredInt g f) (heg : Enters Try.prog g) (A : Option Addr) (n c : Nat) (l : List Int) (w : World) (h : Sl ci 1 w A n l) :
    Calls Try.prog 68 #[.slice A n c, .func (.func g) #[] #[]] w fun e w' => e = .returned (.bool (l.any f)) ∧ Bl w w' := by
  go_enter Try.func68, Try.ntmps68
  go_wp2_with fail
  refine (indexFuncInt_any g f hf heg A n c l _ h).mono ?_
  rintro e w' ⟨⟨i, rfl, hi⟩, hb⟩
  have HI := Lib.hid hi; clear hi
  go_wp2_with fail
  go_ret
  exact ⟨by rw [← HI.out]; rfl, hb⟩
/-- A predicate of Pump handed over as a function value. -/
def PredPump (g : FuncId) (f : Pump → Bool) : Prop := ∀ (p : Pump) (w : World), Calls Try.prog g #[p.val] w fun e w' => e = .returned (.bool (f p)) ∧ Bl w w'
set_option maxHeartbeats 400000 in
theorem indexFuncPump_any (g : FuncId) (f : Pump → Bool) (hf : PredPump g f) (heg : Enters Try.prog g) (A : Option Addr) (n c : Nat) (l : List Pump) (w : World) (h : Sl Pump.cs 3 w A n l) :
    Calls Try.prog 105 #[.slice A n c, .func (.func g) #[] #[]] w fun e w' => (∃ i : Int, e = .returned (.int .i64 i) ∧ decide (0 ≤ i) = l.any f) ∧ Bl w w' := by
  have bn := h.le
  have HL := Lib.hid h.1
  have eg : ∀ args w, (callFunc g args).run Try.prog w = .ok (.enter g args) w := heg
  clear heg
  go_enter Try.func105, Try.ntmps105
  go_wp2
  go_loopw [8] (fun i wr => ∃ k : Nat, k ≤ n ∧ i = .int .i64 k ∧ Bl w wr ∧ Hid ((l.take k).any f = false)) (fun i _ => n - (intOf i).toNat)
  case atStart => exact ⟨0, Nat.zero_le _, rfl, Bl.refl _, rfl⟩
  case round =>
    obtain ⟨k, hk, rfl, hb, he⟩ := hrel
    by_cases hlt : k < n
    · obtain ⟨b1, o1, p1, rfl, e1, c11, c12, c13⟩ := h.Pump hlt
      have E1 := Lib.hid e1; clear e1
      have H1 := Lib.hid (fun w => hf p1 w)
      cases hv : f p1
      · go_wp2_with fail
        refine (H1.out _).mono ?_
        rintro e w' ⟨rfl, hbn⟩
        have hb := hb.trans hbn
        clear hbn
        simp only [hv]
        go_wp2_with fail
        first | exact ⟨⟨k + 1, by omega, by go_num, hb, by show _ = _; rw [take_one E1.out, List.any_append, he.out]; simp [hv]⟩, by simp [intOf]; omega⟩ | (refine ⟨?_, by simp [intOf]; omega⟩; (repeat apply Exists.intro); exact ⟨⟨k + 1, by omega, by go_num, hb, by show _ = _; rw [take_one E1.out, List.any_append, he.out]; simp [hv]⟩, rfl⟩)
      · go_wp2_with fail
        refine (H1.out _).mono ?_
        rintro e w' ⟨rfl, hbn⟩
        have hb := hb.trans hbn
        clear hbn
        simp only [hv]
        go_wp2_with fail
        go_ret
        exact ⟨⟨k, rfl, by rw [List.any_eq_true.2 ⟨p1, List.mem_of_getElem? E1.out, hv⟩]; simp⟩, hb⟩
    · have e : k = n := by omega
      subst e
      go_wp2_with fail
      go_ret
      exact ⟨⟨-1, rfl, by have := he.out; rw [take_all HL.out] at this; rw [this]; rfl⟩, hb⟩
set_option maxHeartbeats 400000 in
theorem containsFuncPump_any (g : FuncId) (f : Pump → Bool) (hf : PredPump g f) (heg : Enters Try.prog g) (A : Option Addr) (n c : Nat) (l : List Pump) (w : World) (h : Sl Pump.cs 3 w A n l) :
    Calls Try.prog 70 #[.slice A n c, .func (.func g) #[] #[]] w fun e w' => e = .returned (.bool (l.any f)) ∧ Bl w w' := by
  go_enter Try.func70, Try.ntmps70
  go_wp2_with fail
  refine (indexFuncPump_any g f hf heg A n c l _ h).mono ?_
  rintro e w' ⟨⟨i, rfl, hi⟩, hb⟩
  have HI := Lib.hid hi; clear hi
  go_wp2_with fail
  go_ret
  exact ⟨by rw [← HI.out]; rfl, hb⟩
set_option maxHeartbeats 400000 in
theorem flowFn_any : PredInt 69 (fun x => !inB x (-50) 50) := by
  intro x w
  have H1 := Lib.hid (fun w => inside_any x (-50) 50 w)
  go_enter Try.func69, Try.ntmps69
  go_wp2_with fail
  refine (H1.out _).mono ?_
  rintro e w' ⟨rfl, rfl⟩
  go_wp2_with fail
  go_ret
  exact ⟨rfl, Bl.refl _⟩
set_option maxHeartbeats 1000000 in
theorem pumpFn_any : PredPump 71 (fun p => !vPump p) := by
  intro p w
  have H1 := Lib.hid (fun w => inside_any p.Rate 1 50 w)
  have H2 := Lib.hid (fun w => inside_any p.Cost 0 20 w)
  have H3 := Lib.hid (fun w => inside_any p.Start 0 50 w)
  have HV : Hid ((!vPump p) = !(inB p.Rate 1 50 && inB p.Cost 0 20 && inB p.Start 0 50)) := rfl
  obtain ⟨a, b, c⟩ := p
  simp only [Pump.val] at H1 H2 H3 HV ⊢
  have hb0 : Bl w (w.alloc (.cells #[.int .i64 a, .int .i64 b, .int .i64 c] 87)) := (Bl.refl w).alloc _
  cases h1 : inB a 1 50
  · go_enter Try.func71, Try.ntmps71
    go_wp2_with fail
    refine (H1.out _).mono ?_
    rintro e w' ⟨rfl, rfl⟩
    simp only [h1]
    go_wp2_with fail
    go_ret
    exact ⟨by rw [HV.out, h1]; rfl, hb0⟩
  cases h2 : inB b 0 20
  · go_enter Try.func71, Try.ntmps71
    go_wp2_with fail
    refine (H1.out _).mono ?_
    rintro e w' ⟨rfl, rfl⟩
    simp only [h1]
    go_wp2_with fail
    refine (H2.out _).mono ?_
    rintro e w' ⟨rfl, rfl⟩
    simp only [h2]
    go_wp2_with fail
    go_ret
    exact ⟨by rw [HV.out, h1, h2]; rfl, hb0⟩
  go_enter Try.func71, Try.ntmps71
  go_wp2_with fail
  refine (H1.out _).mono ?_
  rintro e w' ⟨rfl, rfl⟩
  simp only [h1]
  go_wp2_with fail
  refine (H2.out _).mono ?_
  rintro e w' ⟨rfl, rfl⟩
  simp only [h2]
  go_wp2_with fail
  refine (H3.out _).mono ?_
  rintro e w' ⟨rfl, rfl⟩
  go_wp2_with fail
  go_ret
  exact ⟨by rw [HV.out, h1, h2]; rfl, hb0⟩
section
variable (lo hi lv : Int) (A : Option Addr) (n c : Nat) (fl : List Int) (B : Option Addr) (m d : Nat) (pl : List Pump) (w : World) (h : Sl ci 1 w A n fl) (g : Sl Pump.cs 3 w B m pl)
include h g
set_option maxHeartbeats 2000000 in
theorem implIsPumpTask_any :
    Calls Try.prog 21 #[.agg #[.int .i64 lo, .int .i64 hi, .int .i64 lv, .slice A n c, .slice B m d]] w fun e w' => e = .returned (.bool (taskR lo hi lv fl pl)) ∧ Bl w w' := by
  have HR : Hid (taskR lo hi lv fl pl = (decide (0 ≤ lo) && (decide (lo ≤ lv) && (decide (lv ≤ hi) && (decide (hi ≤ 500) && (inB (n : Int) 1 5 && (decide (m ≤ 2) && ((fl.all fun x => inB x (-50) 50) && pl.all vPump)))))))) := by
    show _ = _; rw [taskR, h.1, g.1]
  have H1 := Lib.hid (fun W => inside_any (n : Int) 1 5 W)
  have H2 := Lib.hid (fun W hl => containsFuncInt_any _ _ flowFn_any (enters_of Try.func69 (by kernel_rfl) rfl) A n c fl W hl)
  have H3 := Lib.hid (fun W hl => containsFuncPump_any _ _ pumpFn_any (enters_of Try.func71 (by kernel_rfl) rfl) B m d pl W hl)
  simp only [any_not] at H2 H3
  have bn := h.le
  have bm := g.le
  have F00 : ∀ W, Bl (w.alloc (.cells #[.int .i64 lo, .int .i64 hi, .int .i64 lv, .slice A n c, .slice B m d] 41)) W → W.cell? ⟨w.heap.size, 0, none⟩ = some (.int .i64 lo) := Bl.all (by go_simp)
  have F01 : ∀ W, Bl (w.alloc (.cells #[.int .i64 lo, .int .i64 hi, .int .i64 lv, .slice A n c, .slice B m d] 41)) W → W.cell? ⟨w.heap.size, 1, none⟩ = some (.int .i64 hi) := Bl.all (by go_simp)
  have F02 : ∀ W, Bl (w.alloc (.cells #[.int .i64 lo, .int .i64 hi, .int .i64 lv, .slice A n c, .slice B m d] 41)) W → W.cell? ⟨w.heap.size, 2, none⟩ = some (.int .i64 lv) := Bl.all (by go_simp)
  have F03 : ∀ W, Bl (w.alloc (.cells #[.int .i64 lo, .int .i64 hi, .int .i64 lv, .slice A n c, .slice B m d] 41)) W → W.cell? ⟨w.heap.size, 3, none⟩ = some (.slice A n c) := Bl.all (by go_simp)
  have F04 : ∀ W, Bl (w.alloc (.cells #[.int .i64 lo, .int .i64 hi, .int .i64 lv, .slice A n c, .slice B m d] 41)) W → W.cell? ⟨w.heap.size, 4, none⟩ = some (.slice B m d) := Bl.all (by go_simp)
  have hb := Bl.refl (w.alloc (.cells #[.int .i64 lo, .int .i64 hi, .int .i64 lv, .slice A n c, .slice B m d] 41))
  have hb0 : Hid (Bl w (w.alloc (.cells #[.int .i64 lo, .int .i64 hi, .int .i64 lv, .slice A n c, .slice B m d] 41))) := (Bl.refl w).alloc _
  by_cases q1 : 0 > lo
  · go_enter Try.func21, Try.ntmps21
    go_wp2_with fail
    go_ret
    exact ⟨by rw [HR.out, decide_eq_false (by omega)]; rfl, hb0.out⟩
  by_cases q2 : lo > lv
  · go_enter Try.func21, Try.ntmps21
    go_wp2_with fail
    go_ret
    exact ⟨by rw [HR.out, decide_eq_false (show ¬ lo ≤ lv by omega)]; simp, hb0.out⟩
  by_cases q3 : lv > hi
  · go_enter Try.func21, Try.ntmps21
    go_wp2_with fail
    go_ret
    exact ⟨by rw [HR.out, decide_eq_false (show ¬ lv ≤ hi by omega)]; simp, hb0.out⟩
  by_cases q4 : hi > 500
  · go_enter Try.func21, Try.ntmps21
    go_wp2_with fail
    go_ret
    exact ⟨by rw [HR.out, decide_eq_false (show ¬ hi ≤ 500 by omega)]; simp, hb0.out⟩
  have HR2 : Hid (taskR lo hi lv fl pl = (inB (n : Int) 1 5 && (decide (m ≤ 2) && ((fl.all fun x => inB x (-50) 50) && pl.all vPump)))) := by
    show _ = _; rw [HR.out, decide_eq_true (show 0 ≤ lo by omega), decide_eq_true (show lo ≤ lv by omega), decide_eq_true (show lv ≤ hi by omega), decide_eq_true (show hi ≤ 500 by omega)]; rfl
  clear HR
  cases q5 : inB (n : Int) 1 5
  · rw [q5] at H1
    go_enter Try.func21, Try.ntmps21
    go_wp2_with fail
    refine (H1.out _).mono ?_
    rintro e w' ⟨rfl, rfl⟩
    go_wp2_with fail
    go_ret
    exact ⟨by rw [HR2.out, q5]; rfl, hb0.out⟩
  rw [q5] at H1
  by_cases q6 : m > 2
  · have q6' : (m : Int) > 2 := by omega
    go_enter Try.func21, Try.ntmps21
    go_wp2_with fail
    refine (H1.out _).mono ?_
    rintro e w' ⟨rfl, rfl⟩
    go_wp2_with fail
    go_ret
    exact ⟨by rw [HR2.out, q5, decide_eq_false (show ¬ m ≤ 2 by omega)]; rfl, hb0.out⟩
  have q6' : ¬ (m : Int) > 2 := by omega
  have HR3 : Hid (taskR lo hi lv fl pl = ((fl.all fun x => inB x (-50) 50) && pl.all vPump)) := by
    show _ = _; rw [HR2.out, q5, decide_eq_true (show m ≤ 2 by omega)]; rfl
  have HS := Lib.hid (h.bl hb0.out)
  have HG := Lib.hid (fun W hW => g.bl (w' := W) (hb0.out.trans hW))
  clear HR2 h g
  cases q7 : (fl.all fun x => inB x (-50) 50)
  · rw [q7] at H2
    go_enter Try.func21, Try.ntmps21
    go_wp2_with fail
    refine (H1.out _).mono ?_
    rintro e w' ⟨rfl, rfl⟩
    go_wp2_with fail
    refine (H2.out _ HS.out).mono ?_
    rintro e w' ⟨rfl, hbn⟩
    go_wp2_with fail
    go_ret
    exact ⟨by rw [HR3.out, q7]; rfl, hb0.out.trans hbn⟩
  rw [q7] at H2
  go_enter Try.func21, Try.ntmps21
  go_wp2_with fail
  refine (H1.out _).mono ?_
  rintro e w' ⟨rfl, rfl⟩
  go_wp2_with fail
  refine (H2.out _ HS.out).mono ?_
  rintro e w1 ⟨rfl, hbn⟩
  have f4 := F04 _ hbn
  have HG1 := Lib.hid (HG.out _ hbn)
  have hb1 := hb0.out.trans hbn
  go_wp2_with fail
  refine (H3.out _ HG1.out).mono ?_
  rintro e w2 ⟨rfl, hbn⟩
  have hb2 := hb1.trans hbn
  go_wp2_with fail
  go_ret
  exact ⟨by rw [HR3.out, q7]; simp, hb2⟩
end
end Go.Proofs.Ytmnbbnboaokgjaa
