/- The contracts of the functions on basins: the net inflow, the most lockages. -/
import Derived.Test.YtpgghmhbkgkkiaaC10b
namespace Go.Proofs.Ytpgghmhbkgkkiaa
open Go.RowKit
def net1 (f : Flow) : Int := (if f.From = -1 then f.Volume else 0) - (if f.To = -1 then f.Volume else 0)
def netOf (fs : List Flow) : Int := (fs.map net1).sum
def netInflow (l : List Basin) (fs : List Flow) : Int × Bool := if flowsOk l fs = true then (netOf fs, true) else (0, false)
theorem net_in {f : Flow} (h : f.From = -1) (g : ¬ f.To = -1) : net1 f = f.Volume := by simp [net1, h, g]
theorem net_out {f : Flow} (h : ¬ f.From = -1) (g : f.To = -1) : net1 f = - f.Volume := by simp [net1, h, g]
theorem net_zero {f : Flow} (h : ¬ f.From = -1) (g : ¬ f.To = -1) : net1 f = 0 := by simp [net1, h, g]
theorem net_one {fs : List Flow} {k : Nat} {p : Flow} (h : fs[k]? = some p) : netOf (fs.take (k + 1)) = netOf (fs.take k) + net1 p := by
  rw [take_one h]; simp [netOf]
theorem valid_flow {n : Int} {f : Flow} (h : validFlow n f = true) : -1 ≤ f.From ∧ f.From ≤ n - 1 ∧ -1 ≤ f.To ∧ f.To ≤ n - 1 ∧ f.From ≠ f.To ∧ 1 ≤ f.Volume ∧ f.Volume ≤ 100000 := by
  simp only [validFlow, Bool.and_eq_true, inB_iff, decide_eq_true_eq] at h
  exact ⟨h.1.1.1.1, h.1.1.1.2, h.1.1.2.1, h.1.1.2.2, h.1.2, h.2.1, h.2.2⟩
theorem flows_parts {l : List Basin} {fs : List Flow} (h : flowsOk l fs = true) : basinsOk l = true ∧ fs.length ≤ 12 ∧ fs.all (validFlow l.length) = true := by
  simp only [flowsOk, Bool.and_eq_true, decide_eq_true_eq] at h
  exact ⟨h.1, h.2.1, h.2.2⟩
theorem flow_at {l : List Basin} {fs : List Flow} (h : flowsOk l fs = true) {k : Nat} {f : Flow} (hk : fs[k]? = some f) : -1 ≤ f.From ∧ -1 ≤ f.To ∧ f.From ≠ f.To ∧ 1 ≤ f.Volume ∧ f.Volume ≤ 100000 := by
  have := valid_flow (List.all_eq_true.1 (flows_parts h).2.2 f (List.mem_of_getElem? hk))
  exact ⟨this.1, this.2.2.1, this.2.2.2.2.1, this.2.2.2.2.2.1, this.2.2.2.2.2.2⟩
theorem net_lo {n : Int} {fs : List Flow} (h : fs.all (validFlow n) = true) : -(100000 * (fs.length : Int)) ≤ netOf fs ∧ netOf fs ≤ 100000 * fs.length := by
  induction fs with
  | nil => simp [netOf]
  | cons f fs ih =>
    simp only [List.all_cons, Bool.and_eq_true] at h
    have := ih h.2
    have hp := valid_flow h.1
    have hn : -100000 ≤ net1 f ∧ net1 f ≤ 100000 := by unfold net1; split <;> split <;> omega
    simp only [netOf, List.map_cons, List.sum_cons, List.length_cons] at *
    omega
theorem net_bd {l : List Basin} {fs : List Flow} (h : flowsOk l fs = true) (k : Nat) : -1200000 ≤ netOf (fs.take k) ∧ netOf (fs.take k) ≤ 1200000 := by
  have hp := flows_parts h
  have := net_lo (all_take' hp.2.2 k)
  have : (fs.take k).length ≤ fs.length := by rw [List.length_take]; omega
  omega
set_option maxHeartbeats 1000000 in
theorem specNetInflow_any (A B : Option Addr) (n m c d : Nat) (l : List Basin) (fs : List Flow) (w : World) (h : Sl Basin.cs 3 w A n l) (hf : Sl Flow.cs 3 w B m fs) :
    Calls Try.prog 31 #[.slice A n c, .slice B m d] w fun e w' => e = .returned (.tuple #[.int .i64 (netInflow l fs).1, .bool (netInflow l fs).2]) ∧ Bl w w' := by
  have bn := h.le
  have bm := hf.le
  have HL := Lib.hid h.1
  have HM := Lib.hid hf.1
  have H1 := Lib.hid (l10Flows_any A B n m c d l fs w h hf)
  cases h1 : flowsOk l fs
  · have HR : Hid (netInflow l fs = (0, false)) := by show _ = _; simp [netInflow, h1]
    go_enter Try.func31, Try.ntmps31
    go_wp2_with fail
    refine H1.out.mono ?_
    rintro e w1 ⟨rfl, hb⟩
    simp only [h1]
    go_wp2_with fail
    go_ret2
    exact ⟨by rw [HR.out]; rfl, hb⟩
  · have HR : Hid (netInflow l fs = (netOf fs, true)) := by show _ = _; simp [netInflow, h1]
    go_enter Try.func31, Try.ntmps31
    go_wp2_with fail
    refine H1.out.mono ?_
    rintro e w1 ⟨rfl, hb1⟩
    simp only [h1]
    go_wp2_with fail
    go_loopw [6, 7] (fun u i wr => ∃ k : Nat, k ≤ m ∧ i = .int .i64 k ∧ Bl w wr ∧ u = .int .i64 (netOf (fs.take k))) (fun _ i _ => m - (intOf i).toNat)
    case atStart => exact ⟨0, Nat.zero_le _, rfl, hb1, rfl⟩
    case round =>
      obtain ⟨k, hk, rfl, hb, rfl⟩ := hrel
      obtain ⟨b0, b1⟩ := net_bd h1 k
      by_cases hlt : k < m
      · obtain ⟨b1, o1, p1, rfl, e1, c11, c12, c13⟩ := hf.Flow hlt
        obtain ⟨w0, w1, w2, w3, w4⟩ := flow_at h1 e1
        have HW := Lib.hid (net_one e1)
        clear e1
        by_cases g1 : p1.From = -1
        · have g2 : ¬ p1.To = -1 := by omega
          have HN := Lib.hid (net_in g1 g2)
          have g1' : (p1.From == -1) = true := by simpa using g1
          have g2' : (p1.To == -1) = false := by simpa using g2
          have g3' : ((-1 : Int) == p1.From) = true := by simpa using g1.symm
          have g4' : ((-1 : Int) == p1.To) = false := by simp; omega
          clear g1 g2
          go_wp2
          first | exact ⟨⟨k + 1, by omega, by go_num, by first | exact hb | exact hb.alloc _, by rw [HW.out, HN.out]⟩, by simp [intOf]; omega⟩ | (refine ⟨?_, by simp [intOf]; omega⟩; (repeat apply Exists.intro); exact ⟨⟨k + 1, by omega, by go_num, by first | exact hb | exact hb.alloc _, by rw [HW.out, HN.out]⟩, rfl⟩)
        · have g1' : (p1.From == -1) = false := by simpa using g1
          have g3' : ((-1 : Int) == p1.From) = false := by simp; omega
          by_cases g2 : p1.To = -1
          · have HN := Lib.hid (net_out g1 g2)
            have g2' : (p1.To == -1) = true := by simpa using g2
            have g4' : ((-1 : Int) == p1.To) = true := by simpa using g2.symm
            clear g1 g2
            go_wp2
            first | exact ⟨⟨k + 1, by omega, by go_num, by first | exact hb | exact hb.alloc _, by rw [HW.out, HN.out]; go_num⟩, by simp [intOf]; omega⟩ | (refine ⟨?_, by simp [intOf]; omega⟩; (repeat apply Exists.intro); exact ⟨⟨k + 1, by omega, by go_num, by first | exact hb | exact hb.alloc _, by rw [HW.out, HN.out]; go_num⟩, rfl⟩)
          · have HN := Lib.hid (net_zero g1 g2)
            have g2' : (p1.To == -1) = false := by simpa using g2
            have g4' : ((-1 : Int) == p1.To) = false := by simp; omega
            clear g1 g2
            go_wp2
            first | exact ⟨⟨k + 1, by omega, by go_num, by first | exact hb | exact hb.alloc _, by rw [HW.out, HN.out]; go_num⟩, by simp [intOf]; omega⟩ | (refine ⟨?_, by simp [intOf]; omega⟩; (repeat apply Exists.intro); exact ⟨⟨k + 1, by omega, by go_num, by first | exact hb | exact hb.alloc _, by rw [HW.out, HN.out]; go_num⟩, rfl⟩)
      · have e : k = m := by omega
        subst e
        have HE := Lib.hid (congrArg netOf (take_all HM.out))
        go_wp2
        go_ret2
        exact ⟨by rw [HR.out, ← HE.out]; rfl, hb⟩
set_option maxHeartbeats 1000000 in
theorem implNetInflow_any (A B : Option Addr) (n m c d : Nat) (l : List Basin) (fs : List Flow) (w : World) (h : Sl Basin.cs 3 w A n l) (hf : Sl Flow.cs 3 w B m fs) :
    Calls Try.prog 33 #[.slice A n c, .slice B m d] w fun e w' => e = .returned (.tuple #[.int .i64 (netInflow l fs).1, .bool (netInflow l fs).2]) ∧ Bl w w' := by
  have bn := h.le
  have bm := hf.le
  have HL := Lib.hid h.1
  have HM := Lib.hid hf.1
  have H1 := Lib.hid (areFlows_any A B n m c d l fs w h hf)
  cases h1 : flowsOk l fs
  · have HR : Hid (netInflow l fs = (0, false)) := by show _ = _; simp [netInflow, h1]
    go_enter Try.func33, Try.ntmps33
    go_wp2_with fail
    refine H1.out.mono ?_
    rintro e w1 ⟨rfl, hb⟩
    simp only [h1]
    go_wp2_with fail
    go_ret2
    exact ⟨by rw [HR.out]; rfl, hb⟩
  · have HR : Hid (netInflow l fs = (netOf fs, true)) := by show _ = _; simp [netInflow, h1]
    go_enter Try.func33, Try.ntmps33
    go_wp2_with fail
    refine H1.out.mono ?_
    rintro e w1 ⟨rfl, hb1⟩
    simp only [h1]
    go_wp2_with fail
    go_loopw [6, 15] (fun u i wr => ∃ k : Nat, k ≤ m ∧ i = .int .i64 k ∧ Bl w wr ∧ u = .int .i64 (netOf (fs.take k))) (fun _ i _ => m - (intOf i).toNat)
    case atStart => exact ⟨0, Nat.zero_le _, rfl, hb1, rfl⟩
    case round =>
      obtain ⟨k, hk, rfl, hb, rfl⟩ := hrel
      obtain ⟨b0, b1⟩ := net_bd h1 k
      by_cases hlt : k < m
      · obtain ⟨b1, o1, p1, rfl, e1, c11, c12, c13⟩ := hf.Flow hlt
        obtain ⟨w0, w1, w2, w3, w4⟩ := flow_at h1 e1
        have HW := Lib.hid (net_one e1)
        clear e1
        by_cases g1 : p1.From = -1
        · have g2 : ¬ p1.To = -1 := by omega
          have HN := Lib.hid (net_in g1 g2)
          have g1' : (p1.From == -1) = true := by simpa using g1
          have g2' : (p1.To == -1) = false := by simpa using g2
          have g3' : ((-1 : Int) == p1.From) = true := by simpa using g1.symm
          have g4' : ((-1 : Int) == p1.To) = false := by simp; omega
          clear g1 g2
          go_wp2
          first | exact ⟨⟨k + 1, by omega, by go_num, by first | exact hb | exact hb.alloc _, by rw [HW.out, HN.out]⟩, by simp [intOf]; omega⟩ | (refine ⟨?_, by simp [intOf]; omega⟩; (repeat apply Exists.intro); exact ⟨⟨k + 1, by omega, by go_num, by first | exact hb | exact hb.alloc _, by rw [HW.out, HN.out]⟩, rfl⟩)
        · have g1' : (p1.From == -1) = false := by simpa using g1
          have g3' : ((-1 : Int) == p1.From) = false := by simp; omega
          by_cases g2 : p1.To = -1
          · have HN := Lib.hid (net_out g1 g2)
            have g2' : (p1.To == -1) = true := by simpa using g2
            have g4' : ((-1 : Int) == p1.To) = true := by simpa using g2.symm
            clear g1 g2
            go_wp2
            first | exact ⟨⟨k + 1, by omega, by go_num, by first | exact hb | exact hb.alloc _, by rw [HW.out, HN.out]; go_num⟩, by simp [intOf]; omega⟩ | (refine ⟨?_, by simp [intOf]; omega⟩; (repeat apply Exists.intro); exact ⟨⟨k + 1, by omega, by go_num, by first | exact hb | exact hb.alloc _, by rw [HW.out, HN.out]; go_num⟩, rfl⟩)
          · have HN := Lib.hid (net_zero g1 g2)
            have g2' : (p1.To == -1) = false := by simpa using g2
            have g4' : ((-1 : Int) == p1.To) = false := by simp; omega
            clear g1 g2
            go_wp2
            first | exact ⟨⟨k + 1, by omega, by go_num, by first | exact hb | exact hb.alloc _, by rw [HW.out, HN.out]; go_num⟩, by simp [intOf]; omega⟩ | (refine ⟨?_, by simp [intOf]; omega⟩; (repeat apply Exists.intro); exact ⟨⟨k + 1, by omega, by go_num, by first | exact hb | exact hb.alloc _, by rw [HW.out, HN.out]; go_num⟩, rfl⟩)
      · have e : k = m := by omega
        subst e
        have HE := Lib.hid (congrArg netOf (take_all HM.out))
        go_wp2
        go_ret2
        exact ⟨by rw [HR.out, ← HE.out]; rfl, hb⟩
theorem specNetInflow_std (A : Option Addr) (n c : Nat) (l : List Basin) (B : Option Addr) (m d : Nat) (fs : List Flow) (w : World) (h : Sl Basin.cs 3 w A n l) (hf : Sl Flow.cs 3 w B m fs) :
    Calls Try.prog 31 #[.slice A n c, .slice B m d] w fun e w' => e = .returned (.tuple #[.int .i64 (netInflow l fs).1, .bool (netInflow l fs).2]) ∧ Bl w w' := specNetInflow_any A B n m c d l fs w h hf
theorem implNetInflow_std (A : Option Addr) (n c : Nat) (l : List Basin) (B : Option Addr) (m d : Nat) (fs : List Flow) (w : World) (h : Sl Basin.cs 3 w A n l) (hf : Sl Flow.cs 3 w B m fs) :
    Calls Try.prog 33 #[.slice A n c, .slice B m d] w fun e w' => e = .returned (.tuple #[.int .i64 (netInflow l fs).1, .bool (netInflow l fs).2]) ∧ Bl w w' := implNetInflow_any A B n m c d l fs w h hf
end Go.Proofs.Ytpgghmhbkgkkiaa
