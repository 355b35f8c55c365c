/- The contracts of the functions on basins: totals, lists of flows, the net inflow, the most lockages. -/
import Derived.Test.YtpgghmhbkgkkiaaC10
namespace Go.Proofs.Ytpgghmhbkgkkiaa
open Go.RowKit
def totalOf (l : List Basin) : Int := (l.map (·.Volume)).sum
def totalWater (l : List Basin) : Int × Bool := if basinsOk l = true then (totalOf l, true) else (0, false)
theorem bas_len {l : List Basin} (h : basinsOk l = true) : 1 ≤ l.length ∧ l.length ≤ 6 := by
  simp only [basinsOk, Bool.and_eq_true, inB_iff] at h; omega
theorem bas_all {l : List Basin} (h : basinsOk l = true) : l.all validBasin = true := by simp only [basinsOk, Bool.and_eq_true] at h; exact h.2
theorem bas_at {l : List Basin} (h : basinsOk l = true) {k : Nat} {p : Basin} (hk : l[k]? = some p) : 0 ≤ p.Least ∧ p.Least ≤ p.Volume ∧ p.Volume ≤ p.Most ∧ p.Most ≤ 100000 :=
  validBasin_iff.1 (List.all_eq_true.1 (bas_all h) p (List.mem_of_getElem? hk))
theorem total_one {l : List Basin} {k : Nat} {p : Basin} (h : l[k]? = some p) : totalOf (l.take (k + 1)) = totalOf (l.take k) + p.Volume := by
  rw [take_one h]; simp [totalOf]
theorem total_lo {l : List Basin} (h : l.all validBasin = true) : 0 ≤ totalOf l ∧ totalOf l ≤ 100000 * l.length := by
  induction l with
  | nil => simp [totalOf]
  | cons p l ih =>
    simp only [List.all_cons, Bool.and_eq_true] at h
    have := ih h.2
    have hp := validBasin_iff.1 h.1
    simp only [totalOf, List.map_cons, List.sum_cons, List.length_cons] at *
    omega
theorem all_take' {α : Type} {f : α → Bool} {l : List α} (h : l.all f = true) (k : Nat) : (l.take k).all f = true := by
  rw [List.all_eq_true] at *; exact fun x hx => h x (List.mem_of_mem_take hx)
theorem total_bd {l : List Basin} (h : basinsOk l = true) (k : Nat) : 0 ≤ totalOf (l.take k) ∧ totalOf (l.take k) ≤ 600000 := by
  have hl := bas_len h
  have := total_lo (all_take' (bas_all h) k)
  have : (l.take k).length ≤ l.length := by rw [List.length_take]; omega
  omega
set_option maxHeartbeats 400000 in
theorem specTotalWater_any (A : Option Addr) (n c : Nat) (l : List Basin) (w : World) (h : Sl Basin.cs 3 w A n l) :
    Calls Try.prog 22 #[.slice A n c] w fun e w' => e = .returned (.tuple #[.int .i64 (totalWater l).1, .bool (totalWater l).2]) ∧ Bl w w' := by
  have H1 := Lib.hid (l10Good_any A n c l w h)
  have bn := h.le
  have HL := Lib.hid h.1
  cases h1 : basinsOk l
  · have HR : Hid (totalWater l = (0, false)) := by show _ = _; simp [totalWater, h1]
    go_enter Try.func22, Try.ntmps22
    go_wp2_with fail
    refine H1.out.mono ?_
    rintro e w' ⟨rfl, hb⟩
    simp only [h1]
    go_wp2_with fail
    go_ret2
    exact ⟨by rw [HR.out]; rfl, hb⟩
  · have HR : Hid (totalWater l = (totalOf l, true)) := by show _ = _; simp [totalWater, h1]
    go_enter Try.func22, Try.ntmps22
    go_wp2_with fail
    refine H1.out.mono ?_
    rintro e w1 ⟨rfl, hb1⟩
    simp only [h1]
    go_wp2_with fail
    go_loopw [4, 5] (fun u i wr => ∃ k : Nat, k ≤ n ∧ i = .int .i64 k ∧ Bl w wr ∧ u = .int .i64 (totalOf (l.take k))) (fun _ i _ => n - (intOf i).toNat)
    case atStart => exact ⟨0, Nat.zero_le _, rfl, hb1, rfl⟩
    case round =>
      obtain ⟨k, hk, rfl, hb, rfl⟩ := hrel
      obtain ⟨b0, b1⟩ := total_bd h1 k
      by_cases hlt : k < n
      · obtain ⟨b1, o1, p1, rfl, e1, c11, c12, c13⟩ := h.Basin hlt
        obtain ⟨w0, w1, w2, w3⟩ := bas_at h1 e1
        have HW := Lib.hid (total_one e1)
        clear e1
        go_wp2
        first | exact ⟨⟨k + 1, by omega, by go_num, hb, by rw [HW.out]⟩, by simp [intOf]; omega⟩ | (refine ⟨?_, by simp [intOf]; omega⟩; (repeat apply Exists.intro); exact ⟨⟨k + 1, by omega, by go_num, hb, by rw [HW.out]⟩, rfl⟩)
      · have e : k = n := by omega
        subst e
        have HE := Lib.hid (congrArg totalOf (take_all HL.out))
        go_wp2
        go_ret2
        exact ⟨by rw [HR.out, ← HE.out]; rfl, hb⟩
set_option maxHeartbeats 400000 in
theorem implTotalWater_any (A : Option Addr) (n c : Nat) (l : List Basin) (w : World) (h : Sl Basin.cs 3 w A n l) :
    Calls Try.prog 23 #[.slice A n c] w fun e w' => e = .returned (.tuple #[.int .i64 (totalWater l).1, .bool (totalWater l).2]) ∧ Bl w w' := by
  have H1 := Lib.hid (areBasins_any A n c l w h)
  have bn := h.le
  have HL := Lib.hid h.1
  cases h1 : basinsOk l
  · have HR : Hid (totalWater l = (0, false)) := by show _ = _; simp [totalWater, h1]
    go_enter Try.func23, Try.ntmps23
    go_wp2_with fail
    refine H1.out.mono ?_
    rintro e w' ⟨rfl, hb⟩
    simp only [h1]
    go_wp2_with fail
    go_ret2
    exact ⟨by rw [HR.out]; rfl, hb⟩
  · have HR : Hid (totalWater l = (totalOf l, true)) := by show _ = _; simp [totalWater, h1]
    go_enter Try.func23, Try.ntmps23
    go_wp2_with fail
    refine H1.out.mono ?_
    rintro e w1 ⟨rfl, hb1⟩
    simp only [h1]
    go_wp2_with fail
    go_loopw [4, 12] (fun u i wr => ∃ k : Nat, k ≤ n ∧ i = .int .i64 k ∧ Bl w wr ∧ u = .int .i64 (totalOf (l.take k))) (fun _ i _ => n - (intOf i).toNat)
    case atStart => exact ⟨0, Nat.zero_le _, rfl, hb1, rfl⟩
    case round =>
      obtain ⟨k, hk, rfl, hb, rfl⟩ := hrel
      obtain ⟨b0, b1⟩ := total_bd h1 k
      by_cases hlt : k < n
      · obtain ⟨b1, o1, p1, rfl, e1, c11, c12, c13⟩ := h.Basin hlt
        obtain ⟨w0, w1, w2, w3⟩ := bas_at h1 e1
        have HW := Lib.hid (total_one e1)
        clear e1
        go_wp2
        first | exact ⟨⟨k + 1, by omega, by go_num, by exact hb.alloc _, by rw [HW.out]⟩, by simp [intOf]; omega⟩ | (refine ⟨?_, by simp [intOf]; omega⟩; (repeat apply Exists.intro); exact ⟨⟨k + 1, by omega, by go_num, by exact hb.alloc _, by rw [HW.out]⟩, rfl⟩)
      · have e : k = n := by omega
        subst e
        have HE := Lib.hid (congrArg totalOf (take_all HL.out))
        go_wp2
        go_ret2
        exact ⟨by rw [HR.out, ← HE.out]; rfl, hb⟩
/-! ### lists of flows -/
def flowsOk (l : List Basin) (fs : List Flow) : Bool := basinsOk l && (decide (fs.length ≤ 12) && fs.all (validFlow l.length))
set_option maxHeartbeats 400000 in
theorem l10Flows_any (A B : Option Addr) (n m c d : Nat) (l : List Basin) (fs : List Flow) (w : World) (h : Sl Basin.cs 3 w A n l) (hf : Sl Flow.cs 3 w B m fs) :
    Calls Try.prog 66 #[.slice A n c, .slice B m d] w fun e w' => e = .returned (.bool (flowsOk l fs)) ∧ Bl w w' := by
  have bn := h.le
  have bm := hf.le
  have HL := Lib.hid h.1
  have HM := Lib.hid hf.1
  have hn0 : 0 ≤ (n : Int) := by omega
  have hn1 : (n : Int) ≤ 9223372036854775807 := by omega
  go_enter Try.func66, Try.ntmps66
  go_wp2
  go_loopw [5] (fun i wr => ∃ k : Nat, k ≤ m ∧ i = .int .i64 k ∧ Bl w wr ∧ Hid ((fs.take k).all (validFlow n) = true)) (fun i _ => m - (intOf i).toNat)
  case atStart => exact ⟨0, Nat.zero_le _, rfl, Bl.refl _, rfl⟩
  case round =>
    obtain ⟨k, hk, rfl, hb, he⟩ := hrel
    by_cases hlt : k < m
    · obtain ⟨b1, o1, p1, rfl, e1, c11, c12, c13⟩ := hf.Flow hlt
      have E1 := Lib.hid e1; clear e1
      have H1 := Lib.hid (fun w => l10Flow_any n p1 w hn0 hn1)
      cases hv : validFlow n p1
      · have HF : Hid (flowsOk l fs = false) := by show _ = _; rw [flowsOk, HL.out, all_not E1.out hv]; simp
        go_wp2_with fail
        refine (H1.out _).mono ?_
        rintro e w' ⟨rfl, hbn⟩
        have hb := hb.trans hbn
        clear hbn
        simp only [hv]
        go_wp2_with fail
        go_ret
        exact ⟨by rw [HF.out]; rfl, hb⟩
      · go_wp2_with fail
        refine (H1.out _).mono ?_
        rintro e w' ⟨rfl, hbn⟩
        have hb := hb.trans hbn
        clear hbn
        simp only [hv]
        go_wp2_with fail
        first | exact ⟨⟨k + 1, by omega, by go_num, hb, by show _ = _; rw [all_one _ E1.out, he.out, hv]; rfl⟩, by simp [intOf]; omega⟩ | (refine ⟨?_, by simp [intOf]; omega⟩; (repeat apply Exists.intro); exact ⟨⟨k + 1, by omega, by go_num, hb, by show _ = _; rw [all_one _ E1.out, he.out, hv]; rfl⟩, rfl⟩)
    · have e : k = m := by omega
      subst e
      have H1 := Lib.hid (l10Good_any A n c l wr (h.bl hb))
      have HF : Hid (flowsOk l fs = (basinsOk l && decide (k ≤ 12))) := by
        show _ = _
        have := he.out
        rw [take_all HM.out] at this
        rw [flowsOk, HL.out, HM.out, this, Bool.and_true]
      cases h1 : basinsOk l
      · have HR := Lib.hid (HF.out.trans (by rw [h1]; rfl : _ = false))
        go_wp2_with fail
        refine H1.out.mono ?_
        rintro e w1 ⟨rfl, hb1⟩
        have hb := hb.trans hb1
        simp only [h1]
        go_wp2_with fail
        go_ret
        exact ⟨by rw [HR.out]; rfl, hb⟩
      · cases h2 : decide (k ≤ 12)
        all_goals
          have h3 : decide ((k : Int) ≤ 12) = decide (k ≤ 12) := by simp; omega
          rw [h2] at h3
          have HR := Lib.hid (HF.out.trans (by rw [h1, Bool.true_and] : _ = decide (k ≤ 12)))
          go_wp2_with fail
          refine H1.out.mono ?_
          rintro e w1 ⟨rfl, hb1⟩
          have hb := hb.trans hb1
          simp only [h1]
          go_wp2_with fail
          go_ret
          exact ⟨by rw [HR.out, h2]; rfl, hb⟩
/-- A predicate of Flow handed over as a function value. -/
def PredCFlow (w0 : World) (g : FuncId) (cap : Value) (f : Flow → Bool) : Prop := ∀ (p : Flow) (w : World), Bl w0 w → Calls Try.prog g #[p.val, cap] w fun e w' => e = .returned (.bool (f p)) ∧ Bl w w'
set_option maxHeartbeats 400000 in
theorem indexFuncCFlow_any (w : World) (g : FuncId) (cap : Value) (f : Flow → Bool) (hf : PredCFlow w g cap f) (heg : Enters Try.prog g) (A : Option Addr) (n c : Nat) (l : List Flow) (h : Sl Flow.cs 3 w A n l) :
    Calls Try.prog 84 #[.slice A n c, .func (.func g) #[] #[cap]] w fun e w' => (∃ i : Int, e = .returned (.int .i64 i) ∧ decide (0 ≤ i) = l.any f) ∧ Bl w w' := by
  have bn := h.le
  have HL := Lib.hid h.1
  have eg : ∀ args w, (callFunc g args).run Try.prog w = .ok (.enter g args) w := heg
  clear heg
  go_enter Try.func84, Try.ntmps84
  go_wp2
  go_loopw [8] (fun i wr => ∃ k : Nat, k ≤ n ∧ i = .int .i64 k ∧ Bl w wr ∧ Hid ((l.take k).any f = false)) (fun i _ => n - (intOf i).toNat)
  case atStart => exact ⟨0, Nat.zero_le _, rfl, Bl.refl _, rfl⟩
  case round =>
    obtain ⟨k, hk, rfl, hb, he⟩ := hrel
    by_cases hlt : k < n
    · obtain ⟨b1, o1, p1, rfl, e1, c11, c12, c13⟩ := h.Flow hlt
      have E1 := Lib.hid e1; clear e1
      have H1 := Lib.hid (fun W hW => hf p1 W hW)
      cases hv : f p1
      · go_wp2_with fail
        refine (H1.out _ hb).mono ?_
        rintro e w' ⟨rfl, hbn⟩
        have hb := hb.trans hbn
        clear hbn
        simp only [hv]
        go_wp2_with fail
        first | exact ⟨⟨k + 1, by omega, by go_num, hb, by show _ = _; rw [take_one E1.out, List.any_append, he.out]; simp [hv]⟩, by simp [intOf]; omega⟩ | (refine ⟨?_, by simp [intOf]; omega⟩; (repeat apply Exists.intro); exact ⟨⟨k + 1, by omega, by go_num, hb, by show _ = _; rw [take_one E1.out, List.any_append, he.out]; simp [hv]⟩, rfl⟩)
      · go_wp2_with fail
        refine (H1.out _ hb).mono ?_
        rintro e w' ⟨rfl, hbn⟩
        have hb := hb.trans hbn
        clear hbn
        simp only [hv]
        go_wp2_with fail
        go_ret
        exact ⟨⟨k, rfl, by rw [List.any_eq_true.2 ⟨p1, List.mem_of_getElem? E1.out, hv⟩]; simp⟩, hb⟩
    · have e : k = n := by omega
      subst e
      go_wp2_with fail
      go_ret
      exact ⟨⟨-1, rfl, by have := he.out; rw [take_all HL.out] at this; rw [this]; rfl⟩, hb⟩
set_option maxHeartbeats 400000 in
theorem containsFuncCFlow_any (w : World) (g : FuncId) (cap : Value) (f : Flow → Bool) (hf : PredCFlow w g cap f) (heg : Enters Try.prog g) (A : Option Addr) (n c : Nat) (l : List Flow) (h : Sl Flow.cs 3 w A n l) :
    Calls Try.prog 78 #[.slice A n c, .func (.func g) #[] #[cap]] w fun e w' => e = .returned (.bool (l.any f)) ∧ Bl w w' := by
  go_enter Try.func78, Try.ntmps78
  go_wp2_with fail
  refine (indexFuncCFlow_any _ g cap f hf heg A n c l h).mono ?_
  rintro e w' ⟨⟨i, rfl, hi⟩, hb⟩
  have HI := Lib.hid hi; clear hi
  go_wp2_with fail
  go_ret
  exact ⟨by rw [← HI.out]; rfl, hb⟩
set_option maxHeartbeats 400000 in
theorem areFlowsFn_any (A : Option Addr) (n c : Nat) (l : List Basin) (w0 : World) (g : Nat) (h : Sl Basin.cs 3 w0 A n l) (hc : w0.cell? ⟨g, 0, none⟩ = some (.slice A n c)) (hok : basinsOk l = true) :
    PredCFlow w0 79 (.pointer (some ⟨g, 0, none⟩)) (fun f => !validFlow n f) := by
  intro f w hw
  have hs := h.bl hw
  have G0 : ∀ W, Bl w0 W → W.cell? ⟨g, 0, none⟩ = some (.slice A n c) := Bl.all hc
  have HV : Hid (flowOk l f = validFlow n f) := by show _ = _; rw [flowOk, hok, h.1, Bool.true_and]
  obtain ⟨x, y, z⟩ := f
  simp only [Flow.val]
  have F00 : ∀ W, Bl (w.alloc (.cells #[.int .i64 x, .int .i64 y, .int .i64 z] 32)) W → W.cell? ⟨w.heap.size, 0, none⟩ = some (.int .i64 x) := Bl.all (by go_simp)
  have F01 : ∀ W, Bl (w.alloc (.cells #[.int .i64 x, .int .i64 y, .int .i64 z] 32)) W → W.cell? ⟨w.heap.size, 1, none⟩ = some (.int .i64 y) := Bl.all (by go_simp)
  have F02 : ∀ W, Bl (w.alloc (.cells #[.int .i64 x, .int .i64 y, .int .i64 z] 32)) W → W.cell? ⟨w.heap.size, 2, none⟩ = some (.int .i64 z) := Bl.all (by go_simp)
  have hb := Bl.refl (w.alloc (.cells #[.int .i64 x, .int .i64 y, .int .i64 z] 32))
  have hb0 : Hid (Bl w (w.alloc (.cells #[.int .i64 x, .int .i64 y, .int .i64 z] 32))) := (Bl.refl w).alloc _
  have hb1 : Bl w0 (w.alloc (.cells #[.int .i64 x, .int .i64 y, .int .i64 z] 32)) := hw.trans hb0.out
  have H1 := Lib.hid (implIsFlow_any A n c l ⟨x, y, z⟩ _ (hs.bl hb0.out))
  clear hw hc
  go_enter Try.func79, Try.ntmps79
  go_wp2_with fail
  refine H1.out.mono ?_
  rintro e w1 ⟨rfl, hbn⟩
  have hb := hb.trans hbn
  go_wp2_with fail
  go_ret
  exact ⟨by rw [← HV.out]; rfl, hb0.out.trans hb⟩
set_option maxHeartbeats 1000000 in
theorem areFlows_any (A B : Option Addr) (n m c d : Nat) (l : List Basin) (fs : List Flow) (w : World) (h : Sl Basin.cs 3 w A n l) (hf : Sl Flow.cs 3 w B m fs) :
    Calls Try.prog 67 #[.slice A n c, .slice B m d] w fun e w' => e = .returned (.bool (flowsOk l fs)) ∧ Bl w w' := by
  have bn := h.le
  have bm := hf.le
  have HL := Lib.hid h.1
  have HM := Lib.hid hf.1
  have F00 : ∀ W, Bl (w.alloc (.cells #[(.slice A n c)] 25)) W → W.cell? ⟨w.heap.size, 0, none⟩ = some ((.slice A n c)) := Bl.all (by go_simp)
  have hb := Bl.refl (w.alloc (.cells #[(.slice A n c)] 25))
  have hb0 : Hid (Bl w (w.alloc (.cells #[(.slice A n c)] 25))) := (Bl.refl w).alloc _
  have H1 := Lib.hid (areBasins_any A n c l _ (h.bl hb0.out))
  have HF : Hid (flowsOk l fs = (basinsOk l && (decide (m ≤ 12) && fs.all (validFlow n)))) := by
    show _ = _
    rw [flowsOk, HL.out, HM.out]
  cases h1 : basinsOk l
  · have HR := Lib.hid (HF.out.trans (by rw [h1]; rfl : _ = false))
    go_enter Try.func67, Try.ntmps67
    go_wp2_with fail
    refine H1.out.mono ?_
    rintro e w1 ⟨rfl, hbn⟩
    have hb := hb.trans hbn
    simp only [h1]
    go_wp2_with fail
    go_ret
    exact ⟨by rw [HR.out]; rfl, hb0.out.trans hb⟩
  · cases h2 : decide (m ≤ 12)
    · have h3 : decide ((m : Int) ≤ 12) = false := by simp at h2 ⊢; omega
      have HR := Lib.hid (HF.out.trans (by rw [h1, h2]; rfl : _ = false))
      go_enter Try.func67, Try.ntmps67
      go_wp2_with fail
      refine H1.out.mono ?_
      rintro e w1 ⟨rfl, hbn⟩
      have hb := hb.trans hbn
      simp only [h1]
      go_wp2_with fail
      go_ret
      exact ⟨by rw [HR.out]; rfl, hb0.out.trans hb⟩
    · have h3 : decide ((m : Int) ≤ 12) = true := by simp at h2 ⊢; omega
      have HR := Lib.hid (HF.out.trans (by rw [h1, h2, any_not, Bool.not_not]; rfl : _ = !(fs.any fun f => !validFlow n f)))
      go_enter Try.func67, Try.ntmps67
      go_wp2_with fail
      refine H1.out.mono ?_
      rintro e w1 ⟨rfl, hbn⟩
      have hb := hb.trans hbn
      clear hbn
      simp only [h1]
      go_wp2_with fail
      refine (containsFuncCFlow_any _ _ _ _ (areFlowsFn_any A n c l _ w.heap.size (h.bl (hb0.out.trans hb)) (F00 _ hb) h1) (enters_of Try.func79 (by kernel_rfl) rfl) B m d fs (hf.bl (hb0.out.trans hb))).mono ?_
      rintro e w2 ⟨rfl, hbn⟩
      have hb := hb.trans hbn
      go_wp2_with fail
      go_ret
      exact ⟨by rw [HR.out]; rfl, hb0.out.trans hb⟩
end Go.Proofs.Ytpgghmhbkgkkiaa
