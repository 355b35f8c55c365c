/- The contracts of the functions on basins: validity, flows' validity, totals. -/
import Derived.Test.YtpgghmhbkgkkiaaL1
import Derived.Test.YtpgghmhbkgkkiaaHBasin
import Derived.Test.YtpgghmhbkgkkiaaHFlow
import Derived.Test.YtpgghmhbkgkkiaaHInt
namespace Go.Proofs.Ytpgghmhbkgkkiaa
open Go.RowKit
def validBasin (b : Basin) : Bool := decide (0 ≤ b.Least) && decide (b.Least ≤ b.Volume) && decide (b.Volume ≤ b.Most) && decide (b.Most ≤ 100000)
theorem validBasin_iff {b : Basin} : validBasin b = true ↔ 0 ≤ b.Least ∧ b.Least ≤ b.Volume ∧ b.Volume ≤ b.Most ∧ b.Most ≤ 100000 := by simp [validBasin, and_assoc]
def basinsOk (l : List Basin) : Bool := inB l.length 1 6 && l.all validBasin
set_option maxHeartbeats 2000000 in
theorem l10Single_any (p : Basin) (w : World) : Calls Try.prog 75 #[p.val] w fun e w' => e = .returned (.bool (validBasin p)) ∧ Bl w w' := by
  obtain ⟨a, b, c⟩ := p
  have HV : Hid (validBasin ⟨a, b, c⟩ = (decide (0 ≤ b) && decide (b ≤ a) && decide (a ≤ c) && decide (c ≤ 100000))) := rfl
  generalize validBasin ⟨a, b, c⟩ = v at *
  cases h1 : decide (0 ≤ b) <;> cases h2 : decide (b ≤ a) <;> cases h3 : decide (a ≤ c) <;> cases h4 : decide (c ≤ 100000)
  all_goals
    have HR := Lib.hid (HV.out.trans (by rw [h1, h2, h3, h4]))
    clear HV
    first | have k1 := dec_yes h1 | have k1 := dec_no h1
    first | have k2 := dec_yes h2 | have k2 := dec_no h2
    first | have k3 := dec_yes h3 | have k3 := dec_no h3
    first | have k4 := dec_yes h4 | have k4 := dec_no h4
    simp only [Basin.val]
    go_enter Try.func75, Try.ntmps75
    go_wp2
    go_ret
    exact ⟨by rw [HR.out]; rfl, (Bl.refl _).alloc _⟩
/-- A predicate of Basin handed over as a function value. -/
def PredBasin (g : FuncId) (f : Basin → Bool) : Prop := ∀ (p : Basin) (w : World), Calls Try.prog g #[p.val] w fun e w' => e = .returned (.bool (f p)) ∧ Bl w w'
set_option maxHeartbeats 400000 in
theorem indexFuncBasin_any (g : FuncId) (f : Basin → Bool) (hf : PredBasin g f) (heg : Enters Try.prog g) (A : Option Addr) (n c : Nat) (l : List Basin) (w : World) (h : Sl Basin.cs 3 w A n l) :
    Calls Try.prog 77 #[.slice A n c, .func (.func g) #[] #[]] w fun e w' => (∃ i : Int, e = .returned (.int .i64 i) ∧ decide (0 ≤ i) = l.any f) ∧ Bl w w' := by
  have bn := h.le
  have HL := Lib.hid h.1
  have eg : ∀ args w, (callFunc g args).run Try.prog w = .ok (.enter g args) w := heg
  clear heg
  go_enter Try.func77, Try.ntmps77
  go_wp2
  go_loopw [8] (fun i wr => ∃ k : Nat, k ≤ n ∧ i = .int .i64 k ∧ Bl w wr ∧ Hid ((l.take k).any f = false)) (fun i _ => n - (intOf i).toNat)
  case atStart => exact ⟨0, Nat.zero_le _, rfl, Bl.refl _, rfl⟩
  case round =>
    obtain ⟨k, hk, rfl, hb, he⟩ := hrel
    by_cases hlt : k < n
    · obtain ⟨b1, o1, p1, rfl, e1, c11, c12, c13⟩ := h.Basin hlt
      have E1 := Lib.hid e1; clear e1
      have H1 := Lib.hid (fun w => hf p1 w)
      cases hv : f p1
      · go_wp2_with fail
        refine (H1.out _).mono ?_
        rintro e w' ⟨rfl, hbn⟩
        have hb := hb.trans hbn
        clear hbn
        simp only [hv]
        go_wp2_with fail
        first | exact ⟨⟨k + 1, by omega, by go_num, hb, by show _ = _; rw [take_one E1.out, List.any_append, he.out]; simp [hv]⟩, by simp [intOf]; omega⟩ | (refine ⟨?_, by simp [intOf]; omega⟩; (repeat apply Exists.intro); exact ⟨⟨k + 1, by omega, by go_num, hb, by show _ = _; rw [take_one E1.out, List.any_append, he.out]; simp [hv]⟩, rfl⟩)
      · go_wp2_with fail
        refine (H1.out _).mono ?_
        rintro e w' ⟨rfl, hbn⟩
        have hb := hb.trans hbn
        clear hbn
        simp only [hv]
        go_wp2_with fail
        go_ret
        exact ⟨⟨k, rfl, by rw [List.any_eq_true.2 ⟨p1, List.mem_of_getElem? E1.out, hv⟩]; simp⟩, hb⟩
    · have e : k = n := by omega
      subst e
      go_wp2_with fail
      go_ret
      exact ⟨⟨-1, rfl, by have := he.out; rw [take_all HL.out] at this; rw [this]; rfl⟩, hb⟩
set_option maxHeartbeats 400000 in
theorem containsFuncBasin_any (g : FuncId) (f : Basin → Bool) (hf : PredBasin g f) (heg : Enters Try.prog g) (A : Option Addr) (n c : Nat) (l : List Basin) (w : World) (h : Sl Basin.cs 3 w A n l) :
    Calls Try.prog 59 #[.slice A n c, .func (.func g) #[] #[]] w fun e w' => e = .returned (.bool (l.any f)) ∧ Bl w w' := by
  go_enter Try.func59, Try.ntmps59
  go_wp2_with fail
  refine (indexFuncBasin_any g f hf heg A n c l _ h).mono ?_
  rintro e w' ⟨⟨i, rfl, hi⟩, hb⟩
  have HI := Lib.hid hi; clear hi
  go_wp2_with fail
  go_ret
  exact ⟨by rw [← HI.out]; rfl, hb⟩
set_option maxHeartbeats 2000000 in
theorem areBasinsFn_any : PredBasin 60 (fun p => !validBasin p) := by
  intro p w
  obtain ⟨a, b, c⟩ := p
  have HV : Hid (validBasin ⟨a, b, c⟩ = (decide (0 ≤ b) && decide (b ≤ a) && decide (a ≤ c) && decide (c ≤ 100000))) := rfl
  simp only
  generalize validBasin ⟨a, b, c⟩ = v at *
  cases h1 : decide (0 ≤ b) <;> cases h2 : decide (b ≤ a) <;> cases h3 : decide (a ≤ c) <;> cases h4 : decide (c ≤ 100000)
  all_goals
    have HR := Lib.hid (HV.out.trans (by rw [h1, h2, h3, h4]))
    clear HV
    first | have k1 := dec_yes h1 | have k1 := dec_no h1
    first | have k2 := dec_yes h2 | have k2 := dec_no h2
    first | have k3 := dec_yes h3 | have k3 := dec_no h3
    first | have k4 := dec_yes h4 | have k4 := dec_no h4
    simp only [Basin.val]
    go_enter Try.func60, Try.ntmps60
    go_wp2
    go_ret
    exact ⟨by rw [HR.out]; rfl, (Bl.refl _).alloc _⟩
set_option maxHeartbeats 400000 in
theorem l10Good_any (A : Option Addr) (n c : Nat) (l : List Basin) (w : World) (h : Sl Basin.cs 3 w A n l) :
    Calls Try.prog 56 #[.slice A n c] w fun e w' => e = .returned (.bool (basinsOk l)) ∧ Bl w w' := by
  have bn := h.le
  have HL := Lib.hid h.1
  go_enter Try.func56, Try.ntmps56
  go_wp2
  go_loopw [3] (fun i wr => ∃ k : Nat, k ≤ n ∧ i = .int .i64 k ∧ Bl w wr ∧ Hid ((l.take k).all validBasin = true)) (fun i _ => n - (intOf i).toNat)
  case atStart => exact ⟨0, Nat.zero_le _, rfl, Bl.refl _, rfl⟩
  case round =>
    obtain ⟨k, hk, rfl, hb, he⟩ := hrel
    by_cases hlt : k < n
    · obtain ⟨b1, o1, p1, rfl, e1, c11, c12, c13⟩ := h.Basin hlt
      have E1 := Lib.hid e1; clear e1
      have H1 := Lib.hid (fun w => l10Single_any p1 w)
      cases hv : validBasin p1
      · have HF : Hid (basinsOk l = false) := by show _ = _; simp [basinsOk, all_not E1.out hv]
        go_wp2_with fail
        refine (H1.out _).mono ?_
        rintro e w' ⟨rfl, hbn⟩
        have hb := hb.trans hbn
        clear hbn
        simp only [hv]
        go_wp2_with fail
        go_ret
        exact ⟨by rw [HF.out]; rfl, hb⟩
      · go_wp2_with fail
        refine (H1.out _).mono ?_
        rintro e w' ⟨rfl, hbn⟩
        have hb := hb.trans hbn
        clear hbn
        simp only [hv]
        go_wp2_with fail
        first | exact ⟨⟨k + 1, by omega, by go_num, hb, by show _ = _; rw [all_one _ E1.out, he.out, hv]; rfl⟩, by simp [intOf]; omega⟩ | (refine ⟨?_, by simp [intOf]; omega⟩; (repeat apply Exists.intro); exact ⟨⟨k + 1, by omega, by go_num, hb, by show _ = _; rw [all_one _ E1.out, he.out, hv]; rfl⟩, rfl⟩)
    · have e : k = n := by omega
      subst e
      have H1 := Lib.hid (fun w => same_bl (l1In_any (k : Int) 1 6 w))
      have HF : Hid (basinsOk l = inB k 1 6) := by
        show _ = _
        have := he.out
        rw [take_all HL.out] at this
        rw [basinsOk, HL.out, this, Bool.and_true]
      go_wp2_with fail
      refine (H1.out _).mono ?_
      rintro e w' ⟨rfl, hbn⟩
      have hb := hb.trans hbn
      clear hbn
      go_wp2_with fail
      go_ret
      exact ⟨by rw [HF.out]; rfl, hb⟩
set_option maxHeartbeats 400000 in
theorem specAreBasins_any (A : Option Addr) (n c : Nat) (l : List Basin) (w : World) (h : Sl Basin.cs 3 w A n l) :
    Calls Try.prog 15 #[.slice A n c] w fun e w' => e = .returned (.bool (basinsOk l)) ∧ Bl w w' := by
  have H1 := Lib.hid (l10Good_any A n c l w h)
  go_enter Try.func15, Try.ntmps15
  go_wp2_with fail
  refine H1.out.mono ?_
  rintro e w' ⟨rfl, hb⟩
  go_wp2_with fail
  go_ret
  exact ⟨rfl, hb⟩
set_option maxHeartbeats 400000 in
theorem areBasins_any (A : Option Addr) (n c : Nat) (l : List Basin) (w : World) (h : Sl Basin.cs 3 w A n l) :
    Calls Try.prog 17 #[.slice A n c] w fun e w' => e = .returned (.bool (basinsOk l)) ∧ Bl w w' := by
  have bn := h.le
  have HL := Lib.hid h.1
  have H1 := Lib.hid (fun w => same_bl (inside_any (n : Int) 1 6 w))
  have hb := Bl.refl w
  cases h1 : inB n 1 6
  · have HR : Hid (basinsOk l = false) := by show _ = _; rw [basinsOk, HL.out, h1]; rfl
    go_enter Try.func17, Try.ntmps17
    go_wp2_with fail
    refine (H1.out _).mono ?_
    rintro e w' ⟨rfl, hbn⟩
    have hb := hb.trans hbn
    clear hbn
    simp only [h1]
    go_wp2_with fail
    go_ret
    exact ⟨by rw [HR.out]; rfl, hb⟩
  · have HR : Hid (basinsOk l = !(l.any fun p => !validBasin p)) := by show _ = _; rw [any_not, basinsOk, HL.out, h1]; simp
    go_enter Try.func17, Try.ntmps17
    go_wp2_with fail
    refine (H1.out _).mono ?_
    rintro e w' ⟨rfl, hbn⟩
    have hb := hb.trans hbn
    clear hbn
    simp only [h1]
    go_wp2_with fail
    refine (containsFuncBasin_any _ _ areBasinsFn_any (enters_of Try.func60 (by kernel_rfl) rfl) A n c l _ (h.bl hb)).mono ?_
    rintro e w2 ⟨rfl, hb2⟩
    have hb := hb.trans hb2
    go_wp2_with fail
    go_ret
    exact ⟨by rw [HR.out]; rfl, hb⟩
/-! ### flows -/
def validFlow (n : Int) (f : Flow) : Bool := inB f.From (-1) (n - 1) && inB f.To (-1) (n - 1) && decide (f.From ≠ f.To) && inB f.Volume 1 100000
set_option maxHeartbeats 2000000 in
theorem l10Flow_any (n : Int) (f : Flow) (w : World) (h0 : 0 ≤ n) (h1 : n ≤ 9223372036854775807) : Calls Try.prog 62 #[.int .i64 n, f.val] w fun e w' => e = .returned (.bool (validFlow n f)) ∧ Bl w w' := by
  obtain ⟨a, b, c⟩ := f
  have HV : Hid (validFlow n ⟨a, b, c⟩ = (inB a (-1) (n - 1) && inB b (-1) (n - 1) && decide (a ≠ b) && inB c 1 100000)) := rfl
  generalize validFlow n ⟨a, b, c⟩ = v at *
  have H1 := Lib.hid (fun w => same_bl (l1In_any a (-1) (n - 1) w))
  have H2 := Lib.hid (fun w => same_bl (l1In_any b (-1) (n - 1) w))
  have H3 := Lib.hid (fun w => same_bl (l1In_any c 1 100000 w))
  simp only [Flow.val]
  have F00 : ∀ W, Bl (w.alloc (.cells #[.int .i64 a, .int .i64 b, .int .i64 c] 32)) W → W.cell? ⟨w.heap.size, 0, none⟩ = some (.int .i64 a) := Bl.all (by go_simp)
  have F01 : ∀ W, Bl (w.alloc (.cells #[.int .i64 a, .int .i64 b, .int .i64 c] 32)) W → W.cell? ⟨w.heap.size, 1, none⟩ = some (.int .i64 b) := Bl.all (by go_simp)
  have F02 : ∀ W, Bl (w.alloc (.cells #[.int .i64 a, .int .i64 b, .int .i64 c] 32)) W → W.cell? ⟨w.heap.size, 2, none⟩ = some (.int .i64 c) := Bl.all (by go_simp)
  have hb := Bl.refl (w.alloc (.cells #[.int .i64 a, .int .i64 b, .int .i64 c] 32))
  have hb0 : Hid (Bl w (w.alloc (.cells #[.int .i64 a, .int .i64 b, .int .i64 c] 32))) := (Bl.refl w).alloc _
  cases e1 : inB a (-1) (n - 1)
  · have HR := Lib.hid (HV.out.trans (by rw [e1]; rfl : _ = false))
    go_enter Try.func62, Try.ntmps62
    go_wp2_with fail
    refine (H1.out _).mono ?_
    rintro e w' ⟨rfl, hbn⟩
    have hb := hb.trans hbn
    clear hbn
    simp only [e1]
    go_wp2_with fail
    go_ret
    exact ⟨by rw [HR.out]; rfl, hb0.out.trans hb⟩
  cases e2 : inB b (-1) (n - 1)
  · have HR := Lib.hid (HV.out.trans (by rw [e1, e2]; rfl : _ = false))
    go_enter Try.func62, Try.ntmps62
    go_wp2_with fail
    refine (H1.out _).mono ?_
    rintro e w' ⟨rfl, hbn⟩
    have hb := hb.trans hbn
    clear hbn
    simp only [e1]
    go_wp2_with fail
    refine (H2.out _).mono ?_
    rintro e w' ⟨rfl, hbn⟩
    have hb := hb.trans hbn
    clear hbn
    simp only [e2]
    go_wp2_with fail
    go_ret
    exact ⟨by rw [HR.out]; rfl, hb0.out.trans hb⟩
  by_cases e3 : a = b
  · have HR := Lib.hid (HV.out.trans (by rw [e1, e2]; simp [e3] : _ = false))
    have e3' : (a == b) = true := by simpa using e3
    have e4' : (a != b) = false := by simpa using e3
    have E3 := Lib.hid e3; clear e3
    go_enter Try.func62, Try.ntmps62
    go_wp2_with fail
    refine (H1.out _).mono ?_
    rintro e w' ⟨rfl, hbn⟩
    have hb := hb.trans hbn
    clear hbn
    simp only [e1]
    go_wp2_with fail
    refine (H2.out _).mono ?_
    rintro e w' ⟨rfl, hbn⟩
    have hb := hb.trans hbn
    clear hbn
    simp only [e2]
    go_wp2_with fail
    go_ret
    exact ⟨by rw [HR.out]; rfl, hb0.out.trans hb⟩
  have e3' : (a == b) = false := by simpa using e3
  have e4' : (a != b) = true := by simpa using e3
  have HR := Lib.hid (HV.out.trans (by rw [e1, e2]; simp [e3] : _ = inB c 1 100000))
  clear e3
  go_enter Try.func62, Try.ntmps62
  go_wp2_with fail
  refine (H1.out _).mono ?_
  rintro e w' ⟨rfl, hbn⟩
  have hb := hb.trans hbn
  clear hbn
  simp only [e1]
  go_wp2_with fail
  refine (H2.out _).mono ?_
  rintro e w' ⟨rfl, hbn⟩
  have hb := hb.trans hbn
  clear hbn
  simp only [e2]
  go_wp2_with fail
  refine (H3.out _).mono ?_
  rintro e w' ⟨rfl, hbn⟩
  have hb := hb.trans hbn
  clear hbn
  go_wp2_with fail
  go_ret
  exact ⟨by rw [HR.out]; rfl, hb0.out.trans hb⟩
def flowOk (l : List Basin) (f : Flow) : Bool := basinsOk l && validFlow l.length f
set_option maxHeartbeats 2000000 in
theorem specIsFlow_any (A : Option Addr) (n c : Nat) (l : List Basin) (f : Flow) (w : World) (h : Sl Basin.cs 3 w A n l) :
    Calls Try.prog 19 #[.slice A n c, f.val] w fun e w' => e = .returned (.bool (flowOk l f)) ∧ Bl w w' := by
  have bn := h.le
  have H2 := Lib.hid (fun w => l10Flow_any n f w (by omega) (by omega))
  have HV : Hid (flowOk l f = (basinsOk l && validFlow n f)) := by show _ = _; rw [flowOk, h.1]
  generalize flowOk l f = r at *
  generalize validFlow n f = v at *
  obtain ⟨x, y, z⟩ := f
  simp only [Flow.val] at H2 ⊢
  have F00 : ∀ W, Bl (w.alloc (.cells #[.int .i64 x, .int .i64 y, .int .i64 z] 32)) W → W.cell? ⟨w.heap.size, 0, none⟩ = some (.int .i64 x) := Bl.all (by go_simp)
  have F01 : ∀ W, Bl (w.alloc (.cells #[.int .i64 x, .int .i64 y, .int .i64 z] 32)) W → W.cell? ⟨w.heap.size, 1, none⟩ = some (.int .i64 y) := Bl.all (by go_simp)
  have F02 : ∀ W, Bl (w.alloc (.cells #[.int .i64 x, .int .i64 y, .int .i64 z] 32)) W → W.cell? ⟨w.heap.size, 2, none⟩ = some (.int .i64 z) := Bl.all (by go_simp)
  have hb := Bl.refl (w.alloc (.cells #[.int .i64 x, .int .i64 y, .int .i64 z] 32))
  have hb0 : Hid (Bl w (w.alloc (.cells #[.int .i64 x, .int .i64 y, .int .i64 z] 32))) := (Bl.refl w).alloc _
  have H1 := Lib.hid (l10Good_any A n c l _ (h.bl hb0.out))
  cases e1 : basinsOk l
  · have HR := Lib.hid (HV.out.trans (by rw [e1]; rfl : _ = false))
    go_enter Try.func19, Try.ntmps19
    go_wp2_with fail
    refine H1.out.mono ?_
    rintro e w1 ⟨rfl, hbn⟩
    have hb := hb.trans hbn
    simp only [e1]
    go_wp2_with fail
    go_ret
    exact ⟨by rw [HR.out]; rfl, hb0.out.trans hb⟩
  · have HR := Lib.hid (HV.out.trans (by rw [e1]; rfl : _ = v))
    go_enter Try.func19, Try.ntmps19
    go_wp2_with fail
    refine H1.out.mono ?_
    rintro e w1 ⟨rfl, hbn⟩
    have hb := hb.trans hbn
    clear hbn
    simp only [e1]
    go_wp2_with fail
    refine (H2.out _).mono ?_
    rintro e w' ⟨rfl, hbn⟩
    have hb := hb.trans hbn
    clear hbn
    go_wp2_with fail
    go_ret
    exact ⟨by rw [HR.out]; rfl, hb0.out.trans hb⟩
set_option maxHeartbeats 2000000 in
theorem implIsFlow_any (A : Option Addr) (n c : Nat) (l : List Basin) (f : Flow) (w : World) (h : Sl Basin.cs 3 w A n l) :
    Calls Try.prog 21 #[.slice A n c, f.val] w fun e w' => e = .returned (.bool (flowOk l f)) ∧ Bl w w' := by
  have bn := h.le
  obtain ⟨x, y, z⟩ := f
  have HV : Hid (flowOk l ⟨x, y, z⟩ = (basinsOk l && (inB x (-1) (n - 1) && inB y (-1) (n - 1) && decide (x ≠ y) && inB z 1 100000))) := by show _ = _; rw [flowOk, h.1]; rfl
  generalize flowOk l ⟨x, y, z⟩ = r at *
  have H2 := Lib.hid (fun w => same_bl (inside_any x (-1) (n - 1) w))
  have H3 := Lib.hid (fun w => same_bl (inside_any y (-1) (n - 1) w))
  have H4 := Lib.hid (fun w => same_bl (inside_any z 1 100000 w))
  simp only [Flow.val]
  have F00 : ∀ W, Bl (w.alloc (.cells #[.int .i64 x, .int .i64 y, .int .i64 z] 32)) W → W.cell? ⟨w.heap.size, 0, none⟩ = some (.int .i64 x) := Bl.all (by go_simp)
  have F01 : ∀ W, Bl (w.alloc (.cells #[.int .i64 x, .int .i64 y, .int .i64 z] 32)) W → W.cell? ⟨w.heap.size, 1, none⟩ = some (.int .i64 y) := Bl.all (by go_simp)
  have F02 : ∀ W, Bl (w.alloc (.cells #[.int .i64 x, .int .i64 y, .int .i64 z] 32)) W → W.cell? ⟨w.heap.size, 2, none⟩ = some (.int .i64 z) := Bl.all (by go_simp)
  have hb := Bl.refl (w.alloc (.cells #[.int .i64 x, .int .i64 y, .int .i64 z] 32))
  have hb0 : Hid (Bl w (w.alloc (.cells #[.int .i64 x, .int .i64 y, .int .i64 z] 32))) := (Bl.refl w).alloc _
  have H1 := Lib.hid (areBasins_any A n c l _ (h.bl hb0.out))
  cases e1 : basinsOk l
  · have HR := Lib.hid (HV.out.trans (by rw [e1]; rfl : _ = false))
    go_enter Try.func21, Try.ntmps21
    go_wp2_with fail
    refine H1.out.mono ?_
    rintro e w1 ⟨rfl, hbn⟩
    have hb := hb.trans hbn
    simp only [e1]
    go_wp2_with fail
    go_ret
    exact ⟨by rw [HR.out]; rfl, hb0.out.trans hb⟩
  have HV := Lib.hid (HV.out.trans (by rw [e1, Bool.true_and]))
  cases e2 : inB x (-1) (n - 1)
  · have HR := Lib.hid (HV.out.trans (by rw [e2]; rfl : _ = false))
    go_enter Try.func21, Try.ntmps21
    go_wp2_with fail
    refine H1.out.mono ?_
    rintro e w1 ⟨rfl, hbn⟩
    have hb := hb.trans hbn
    clear hbn
    simp only [e1]
    go_wp2_with fail
    refine (H2.out _).mono ?_
    rintro e w' ⟨rfl, hbn⟩
    have hb := hb.trans hbn
    clear hbn
    simp only [e2]
    go_wp2_with fail
    go_ret
    exact ⟨by rw [HR.out]; rfl, hb0.out.trans hb⟩
  cases e3 : inB y (-1) (n - 1)
  · have HR := Lib.hid (HV.out.trans (by rw [e2, e3]; rfl : _ = false))
    go_enter Try.func21, Try.ntmps21
    go_wp2_with fail
    refine H1.out.mono ?_
    rintro e w1 ⟨rfl, hbn⟩
    have hb := hb.trans hbn
    clear hbn
    simp only [e1]
    go_wp2_with fail
    refine (H2.out _).mono ?_
    rintro e w' ⟨rfl, hbn⟩
    have hb := hb.trans hbn
    clear hbn
    simp only [e2]
    go_wp2_with fail
    refine (H3.out _).mono ?_
    rintro e w' ⟨rfl, hbn⟩
    have hb := hb.trans hbn
    clear hbn
    simp only [e3]
    go_wp2_with fail
    go_ret
    exact ⟨by rw [HR.out]; rfl, hb0.out.trans hb⟩
  by_cases e4 : x = y
  · have HR := Lib.hid (HV.out.trans (by rw [e2, e3]; simp [e4] : _ = false))
    have e5' : (x == y) = true := by simpa using e4
    have e4' : (x != y) = false := by simpa using e4
    clear e4
    go_enter Try.func21, Try.ntmps21
    go_wp2_with fail
    refine H1.out.mono ?_
    rintro e w1 ⟨rfl, hbn⟩
    have hb := hb.trans hbn
    clear hbn
    simp only [e1]
    go_wp2_with fail
    refine (H2.out _).mono ?_
    rintro e w' ⟨rfl, hbn⟩
    have hb := hb.trans hbn
    clear hbn
    simp only [e2]
    go_wp2_with fail
    refine (H3.out _).mono ?_
    rintro e w' ⟨rfl, hbn⟩
    have hb := hb.trans hbn
    clear hbn
    simp only [e3]
    go_wp2_with fail
    go_ret
    exact ⟨by rw [HR.out]; rfl, hb0.out.trans hb⟩
  have e5' : (x == y) = false := by simpa using e4
  have e4' : (x != y) = true := by simpa using e4
  have HR := Lib.hid (HV.out.trans (by rw [e2, e3]; simp [e4] : _ = inB z 1 100000))
  clear e4
  go_enter Try.func21, Try.ntmps21
  go_wp2_with fail
  refine H1.out.mono ?_
  rintro e w1 ⟨rfl, hbn⟩
  have hb := hb.trans hbn
  clear hbn
  simp only [e1]
  go_wp2_with fail
  refine (H2.out _).mono ?_
  rintro e w' ⟨rfl, hbn⟩
  have hb := hb.trans hbn
  clear hbn
  simp only [e2]
  go_wp2_with fail
  refine (H3.out _).mono ?_
  rintro e w' ⟨rfl, hbn⟩
  have hb := hb.trans hbn
  clear hbn
  simp only [e3]
  go_wp2_with fail
  refine (H4.out _).mono ?_
  rintro e w' ⟨rfl, hbn⟩
  have hb := hb.trans hbn
  clear hbn
  go_wp2_with fail
  go_ret
  exact ⟨by rw [HR.out]; rfl, hb0.out.trans hb⟩
end Go.Proofs.Ytpgghmhbkgkkiaa
