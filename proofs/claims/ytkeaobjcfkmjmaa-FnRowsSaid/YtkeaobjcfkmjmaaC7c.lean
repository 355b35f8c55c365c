/- The contracts of the functions on cargo: sharing the lock. -/
import Derived.Test.YtkeaobjcfkmjmaaC7b
namespace Go.Proofs.Ytkeaobjcfkmjmaa
open Go.RowKit
set_option maxHeartbeats 400000 in
theorem specIsCargoList_any (A : Option Addr) (n c : Nat) (l : List Cargo) (w : World) (h : Sl Cargo.cs 3 w A n l) :
    Calls Try.prog 17 #[.slice A n c] w fun e w' => e = .returned (.bool (cargoOk l)) ∧ Bl w w' := by
  have H1 := Lib.hid (l7Good_any A n c l w h)
  go_enter Try.func17, Try.ntmps17
  go_wp2_with fail
  refine H1.out.mono ?_
  rintro e w' ⟨rfl, hb⟩
  go_wp2_with fail
  go_ret
  exact ⟨rfl, hb⟩
theorem fine_at {l : List Cargo} {i : Nat} {p : Cargo} : ∀ k, fineUp l k = true → i < k → l[i]? = some p → fineAt l i p = true := by
  intro k h hi hp
  have := fineUp_mono (show i + 1 ≤ k by omega) h
  rw [fineUp_one hp, Bool.and_eq_true] at this
  exact this.2
theorem cargo_at {l : List Cargo} (h : cargoOk l = true) {k : Nat} {p : Cargo} (hk : l[k]? = some p) : (1 ≤ p.Id ∧ p.Id ≤ 99) ∧ (1 ≤ p.Length ∧ p.Length ≤ 8) ∧ 0 ≤ p.Cones ∧ p.Cones ≤ 3 := by
  simp only [cargoOk, Bool.and_eq_true] at h
  have := fine_at _ h.2 (List.getElem?_eq_some_iff.1 hk).1 hk
  simp only [fineAt, vcargo, Bool.and_eq_true, inB_iff] at this
  exact ⟨this.1.1.1, this.1.1.2, this.1.2⟩
theorem cargo_len {l : List Cargo} (h : cargoOk l = true) : l.length ≤ 6 := by
  simp only [cargoOk, Bool.and_eq_true, decide_eq_true_eq] at h; exact h.1
def hasCone (c : Cargo) : Bool := decide (1 < c.Cones)
def shareR (l : List Cargo) (p : Int) : Bool × Bool := if cargoOk l = true ∧ inB p 0 1000 = true then ((p == 0) || !l.any hasCone, true) else (false, false)
/-- A predicate of Cargo handed over as a function value. -/
def PredCargo (g : FuncId) (f : Cargo → Bool) : Prop := ∀ (p : Cargo) (w : World), Calls Try.prog g #[p.val] w fun e w' => e = .returned (.bool (f p)) ∧ Bl w w'
set_option maxHeartbeats 400000 in
theorem indexFuncCargo_any (g : FuncId) (f : Cargo → Bool) (hf : PredCargo g f) (heg : Enters Try.prog g) (A : Option Addr) (n c : Nat) (l : List Cargo) (w : World) (h : Sl Cargo.cs 3 w A n l) :
    Calls Try.prog 84 #[.slice A n c, .func (.func g) #[] #[]] w fun e w' => (∃ i : Int, e = .returned (.int .i64 i) ∧ decide (0 ≤ i) = l.any f) ∧ Bl w w' := by
  have bn := h.le
  have HL := Lib.hid h.1
  have eg : ∀ args w, (callFunc g args).run Try.prog w = .ok (.enter g args) w := heg
  clear heg
  go_enter Try.func84, Try.ntmps84
  go_wp2
  go_loopw [8] (fun i wr => ∃ k : Nat, k ≤ n ∧ i = .int .i64 k ∧ Bl w wr ∧ Hid ((l.take k).any f = false)) (fun i _ => n - (intOf i).toNat)
  case atStart => exact ⟨0, Nat.zero_le _, rfl, Bl.refl _, rfl⟩
  case round =>
    obtain ⟨k, hk, rfl, hb, he⟩ := hrel
    by_cases hlt : k < n
    · obtain ⟨b1, o1, p1, rfl, e1, c11, c12, c13⟩ := h.Cargo hlt
      have E1 := Lib.hid e1; clear e1
      have H1 := Lib.hid (fun w => hf p1 w)
      cases hv : f p1
      · go_wp2_with fail
        refine (H1.out _).mono ?_
        rintro e w' ⟨rfl, hbn⟩
        have hb := hb.trans hbn
        clear hbn
        simp only [hv]
        go_wp2_with fail
        first | exact ⟨⟨k + 1, by omega, by go_num, hb, by show _ = _; rw [take_one E1.out, List.any_append, he.out]; simp [hv]⟩, by simp [intOf]; omega⟩ | (refine ⟨?_, by simp [intOf]; omega⟩; (repeat apply Exists.intro); exact ⟨⟨k + 1, by omega, by go_num, hb, by show _ = _; rw [take_one E1.out, List.any_append, he.out]; simp [hv]⟩, rfl⟩)
      · go_wp2_with fail
        refine (H1.out _).mono ?_
        rintro e w' ⟨rfl, hbn⟩
        have hb := hb.trans hbn
        clear hbn
        simp only [hv]
        go_wp2_with fail
        go_ret
        exact ⟨⟨k, rfl, by rw [List.any_eq_true.2 ⟨p1, List.mem_of_getElem? E1.out, hv⟩]; simp⟩, hb⟩
    · have e : k = n := by omega
      subst e
      go_wp2_with fail
      go_ret
      exact ⟨⟨-1, rfl, by have := he.out; rw [take_all HL.out] at this; rw [this]; rfl⟩, hb⟩
set_option maxHeartbeats 400000 in
theorem containsFuncCargo_any (g : FuncId) (f : Cargo → Bool) (hf : PredCargo g f) (heg : Enters Try.prog g) (A : Option Addr) (n c : Nat) (l : List Cargo) (w : World) (h : Sl Cargo.cs 3 w A n l) :
    Calls Try.prog 57 #[.slice A n c, .func (.func g) #[] #[]] w fun e w' => e = .returned (.bool (l.any f)) ∧ Bl w w' := by
  go_enter Try.func57, Try.ntmps57
  go_wp2_with fail
  refine (indexFuncCargo_any g f hf heg A n c l _ h).mono ?_
  rintro e w' ⟨⟨i, rfl, hi⟩, hb⟩
  have HI := Lib.hid hi; clear hi
  go_wp2_with fail
  go_ret
  exact ⟨by rw [← HI.out]; rfl, hb⟩
set_option maxHeartbeats 400000 in
theorem hasConeFn_any : PredCargo 60 hasCone := by
  intro p w
  have HS : Hid (hasCone p = decide (1 < p.Cones)) := rfl
  generalize hasCone p = r at *
  obtain ⟨x, y, z⟩ := p
  simp only [Cargo.val] at *
  go_enter Try.func60, Try.ntmps60
  go_wp2
  go_ret
  exact ⟨by rw [HS.out]; rfl, (Bl.refl _).alloc _⟩
set_option maxHeartbeats 1000000 in
theorem implMayShareLock_any (A : Option Addr) (n c : Nat) (l : List Cargo) (p : Int) (w : World) (h : Sl Cargo.cs 3 w A n l) (hcap : n ≤ c) :
    Calls Try.prog 22 #[.slice A n c, .int .i64 p] w fun e w' => e = .returned (.tuple #[.bool (shareR l p).1, .bool (shareR l p).2]) ∧ Bl w w' := by
  have H1 := Lib.hid (isCargoList_any A n c l w h hcap)
  have H2 := Lib.hid (fun w => same_bl (inside_any p 0 1000 w))
  cases h1 : cargoOk l
  · have HR : Hid (shareR l p = (false, false)) := by show _ = _; simp [shareR, h1]
    go_enter Try.func22, Try.ntmps22
    go_wp2_with fail
    refine H1.out.mono ?_
    rintro e w1 ⟨rfl, hb⟩
    simp only [h1]
    go_wp2_with fail
    go_ret2
    exact ⟨by rw [HR.out]; rfl, hb⟩
  cases h2 : inB p 0 1000
  · have HR : Hid (shareR l p = (false, false)) := by show _ = _; simp [shareR, h2]
    go_enter Try.func22, Try.ntmps22
    go_wp2_with fail
    refine H1.out.mono ?_
    rintro e w1 ⟨rfl, hb⟩
    simp only [h1]
    go_wp2_with fail
    refine (H2.out _).mono ?_
    rintro e w' ⟨rfl, hbn⟩
    have hb := hb.trans hbn
    clear hbn
    simp only [h2]
    go_wp2_with fail
    go_ret2
    exact ⟨by rw [HR.out]; rfl, hb⟩
  cases h3 : (p == 0)
  · have HR : Hid (shareR l p = (!l.any hasCone, true)) := by show _ = _; simp [shareR, h1, h2, h3]
    go_enter Try.func22, Try.ntmps22
    go_wp2_with fail
    refine H1.out.mono ?_
    rintro e w1 ⟨rfl, hb⟩
    simp only [h1]
    go_wp2_with fail
    refine (H2.out _).mono ?_
    rintro e w' ⟨rfl, hbn⟩
    have hb := hb.trans hbn
    clear hbn
    simp only [h2]
    go_wp2_with fail
    refine (containsFuncCargo_any _ _ hasConeFn_any (enters_of Try.func60 (by kernel_rfl) rfl) A n c l _ (h.bl hb)).mono ?_
    rintro e w2 ⟨rfl, hbn⟩
    have hb := hb.trans hbn
    go_wp2_with fail
    go_ret2
    exact ⟨by rw [HR.out]; rfl, hb⟩
  · have HR : Hid (shareR l p = (true, true)) := by show _ = _; simp [shareR, h1, h2, h3]
    go_enter Try.func22, Try.ntmps22
    go_wp2_with fail
    refine H1.out.mono ?_
    rintro e w1 ⟨rfl, hb⟩
    simp only [h1]
    go_wp2_with fail
    refine (H2.out _).mono ?_
    rintro e w' ⟨rfl, hbn⟩
    have hb := hb.trans hbn
    clear hbn
    simp only [h2]
    go_wp2_with fail
    go_ret2
    exact ⟨by rw [HR.out]; rfl, hb⟩
set_option maxHeartbeats 1000000 in
theorem specMayShareLock_any (A : Option Addr) (n c : Nat) (l : List Cargo) (p : Int) (w : World) (h : Sl Cargo.cs 3 w A n l) :
    Calls Try.prog 21 #[.slice A n c, .int .i64 p] w fun e w' => e = .returned (.tuple #[.bool (shareR l p).1, .bool (shareR l p).2]) ∧ Bl w w' := by
  have bn := h.le
  have HL := Lib.hid h.1
  have H1 := Lib.hid (l7Good_any A n c l w h)
  have H2 := Lib.hid (fun w => same_bl (l1In_any p 0 1000 w))
  cases h1 : cargoOk l
  · have HR : Hid (shareR l p = (false, false)) := by show _ = _; simp [shareR, h1]
    go_enter Try.func21, Try.ntmps21
    go_wp2_with fail
    refine H1.out.mono ?_
    rintro e w1 ⟨rfl, hb⟩
    simp only [h1]
    go_wp2_with fail
    go_ret2
    exact ⟨by rw [HR.out]; rfl, hb⟩
  cases h2 : inB p 0 1000
  · have HR : Hid (shareR l p = (false, false)) := by show _ = _; simp [shareR, h2]
    go_enter Try.func21, Try.ntmps21
    go_wp2_with fail
    refine H1.out.mono ?_
    rintro e w1 ⟨rfl, hb⟩
    simp only [h1]
    go_wp2_with fail
    refine (H2.out _).mono ?_
    rintro e w' ⟨rfl, hbn⟩
    have hb := hb.trans hbn
    clear hbn
    simp only [h2]
    go_wp2_with fail
    go_ret2
    exact ⟨by rw [HR.out]; rfl, hb⟩
  have hp := (inB_iff.1 h2).1
  have HR0 : Hid (shareR l p = ((p == 0) || !l.any hasCone, true)) := by show _ = _; simp [shareR, h1, h2]
  go_enter Try.func21, Try.ntmps21
  go_wp2_with fail
  refine H1.out.mono ?_
  rintro e w1 ⟨rfl, hb⟩
  simp only [h1]
  go_wp2_with fail
  refine (H2.out _).mono ?_
  rintro e w' ⟨rfl, hbn⟩
  have hb := hb.trans hbn
  clear hbn
  simp only [h2]
  go_wp2_with fail
  have hb1 := hb
  go_loopw [6] (fun i wr => ∃ k : Nat, k ≤ n ∧ i = .int .i64 k ∧ Bl w wr ∧ Hid (0 < p → (l.take k).any hasCone = false)) (fun i _ => n - (intOf i).toNat)
  case atStart => exact ⟨0, Nat.zero_le _, rfl, hb1, fun _ => rfl⟩
  case round =>
    obtain ⟨k, hk, rfl, hb, he⟩ := hrel
    by_cases hlt : k < n
    · obtain ⟨b1, o1, p1, rfl, e1, c11, c12, c13⟩ := h.Cargo hlt
      have E1 := Lib.hid e1; clear e1
      by_cases g1 : 1 < p1.Cones
      · have d1 : decide (1 < p1.Cones) = true := by simpa using g1
        by_cases g2 : 0 < p
        · have d2 : decide (0 < p) = true := by simpa using g2
          have HR := Lib.hid (HR0.out.trans (by
            have h0 : (p == 0) = false := by simp; omega
            rw [h0, List.any_eq_true.2 ⟨p1, List.mem_of_getElem? E1.out, d1⟩]; rfl : _ = (false, true)))
          go_wp2
          go_ret2
          exact ⟨by rw [HR.out]; rfl, hb⟩
        · have d2 : decide (0 < p) = false := by simpa using g2
          go_wp2
          first | exact ⟨⟨k + 1, by omega, by go_num, hb, fun h => absurd h g2⟩, by simp [intOf]; omega⟩ | (refine ⟨?_, by simp [intOf]; omega⟩; (repeat apply Exists.intro); exact ⟨⟨k + 1, by omega, by go_num, hb, fun h => absurd h g2⟩, rfl⟩)
      · have d1 : decide (1 < p1.Cones) = false := by simpa using g1
        have hn : Hid (0 < p → (l.take (k + 1)).any hasCone = false) := by
          intro hpos
          rw [take_one E1.out, List.any_append, he.out hpos]
          simp [hasCone]; omega
        go_wp2
        first | exact ⟨⟨k + 1, by omega, by go_num, hb, hn⟩, by simp [intOf]; omega⟩ | (refine ⟨?_, by simp [intOf]; omega⟩; (repeat apply Exists.intro); exact ⟨⟨k + 1, by omega, by go_num, hb, hn⟩, rfl⟩)
    · have e : k = n := by omega
      subst e
      have HR := Lib.hid (HR0.out.trans (by
        by_cases hpos : 0 < p
        · have := he.out hpos
          rw [take_all HL.out] at this
          rw [this]; simp
        · have h0 : (p == 0) = true := by simp; omega
          rw [h0]; rfl : _ = (true, true)))
      go_wp2
      go_ret2
      exact ⟨by rw [HR.out]; rfl, hb⟩
end Go.Proofs.Ytkeaobjcfkmjmaa
