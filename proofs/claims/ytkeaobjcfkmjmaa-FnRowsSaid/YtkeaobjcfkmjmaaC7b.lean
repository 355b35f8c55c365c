/- The contracts of the functions on cargo: lists. -/
import Derived.Test.YtkeaobjcfkmjmaaC7
namespace Go.Proofs.Ytkeaobjcfkmjmaa
open Go.RowKit
def vcargo (c : Cargo) : Bool := inB c.Id 1 99 && inB c.Length 1 8 && inB c.Cones 0 3
def sameId (c : Cargo) (x : Cargo) : Bool := x.Id == c.Id
/-- The vessel c with number k of l is fine. -/
def fineAt (l : List Cargo) (k : Nat) (c : Cargo) : Bool := vcargo c && !(l.take k).any (sameId c)
def fineUp (l : List Cargo) : Nat → Bool
  | 0 => true
  | k + 1 => fineUp l k && (match l[k]? with | some c => fineAt l k c | none => true)
def cargoOk (l : List Cargo) : Bool := decide (l.length ≤ 6) && fineUp l l.length
theorem fineUp_one {l : List Cargo} {k : Nat} {c : Cargo} (h : l[k]? = some c) : fineUp l (k + 1) = (fineUp l k && fineAt l k c) := by simp [fineUp, h]
theorem fineUp_mono {l : List Cargo} {i k : Nat} (hik : i ≤ k) (h : fineUp l k = true) : fineUp l i = true := by
  induction k with
  | zero => have : i = 0 := by omega
            subst this; exact h
  | succ k ih =>
    by_cases e : i = k + 1
    · subst e; exact h
    · refine ih (by omega) ?_
      simp only [fineUp, Bool.and_eq_true] at h
      exact h.1
theorem not_fine {l : List Cargo} {k : Nat} {c : Cargo} (h : l[k]? = some c) (hc : fineAt l k c = false) : cargoOk l = false := by
  have hk : k < l.length := (List.getElem?_eq_some_iff.1 h).1
  cases e : fineUp l l.length
  · simp [cargoOk, e]
  · have := fineUp_mono (show k + 1 ≤ l.length by omega) e
    rw [fineUp_one h, hc, Bool.and_false] at this
    cases this
theorem long_not {l : List Cargo} (h : 6 < l.length) : cargoOk l = false := by
  have : decide (l.length ≤ 6) = false := by simp; omega
  simp [cargoOk, this]
/-- A predicate of Cargo handed over as a function value. -/
def PredCCargo (w0 : World) (g : FuncId) (cap : Value) (f : Cargo → Bool) : Prop := ∀ (p : Cargo) (w : World), Bl w0 w → Calls Try.prog g #[p.val, cap] w fun e w' => e = .returned (.bool (f p)) ∧ Bl w w'
set_option maxHeartbeats 400000 in
theorem indexFuncCCargo_any (w : World) (g : FuncId) (cap : Value) (f : Cargo → Bool) (hf : PredCCargo w g cap f) (heg : Enters Try.prog g) (A : Option Addr) (n c : Nat) (l : List Cargo) (h : Sl Cargo.cs 3 w A n l) :
    Calls Try.prog 84 #[.slice A n c, .func (.func g) #[] #[cap]] w fun e w' => (∃ i : Int, e = .returned (.int .i64 i) ∧ decide (0 ≤ i) = l.any f) ∧ Bl w w' := by
  have bn := h.le
  have HL := Lib.hid h.1
  have eg : ∀ args w, (callFunc g args).run Try.prog w = .ok (.enter g args) w := heg
  clear heg
  go_enter Try.func84, Try.ntmps84
  go_wp2
  go_loopw [8] (fun i wr => ∃ k : Nat, k ≤ n ∧ i = .int .i64 k ∧ Bl w wr ∧ Hid ((l.take k).any f = false)) (fun i _ => n - (intOf i).toNat)
  case atStart => exact ⟨0, Nat.zero_le _, rfl, Bl.refl _, rfl⟩
  case round =>
    obtain ⟨k, hk, rfl, hb, he⟩ := hrel
    by_cases hlt : k < n
    · obtain ⟨b1, o1, p1, rfl, e1, c11, c12, c13⟩ := h.Cargo hlt
      have E1 := Lib.hid e1; clear e1
      have H1 := Lib.hid (fun W hW => hf p1 W hW)
      cases hv : f p1
      · go_wp2_with fail
        refine (H1.out _ hb).mono ?_
        rintro e w' ⟨rfl, hbn⟩
        have hb := hb.trans hbn
        clear hbn
        simp only [hv]
        go_wp2_with fail
        first | exact ⟨⟨k + 1, by omega, by go_num, hb, by show _ = _; rw [take_one E1.out, List.any_append, he.out]; simp [hv]⟩, by simp [intOf]; omega⟩ | (refine ⟨?_, by simp [intOf]; omega⟩; (repeat apply Exists.intro); exact ⟨⟨k + 1, by omega, by go_num, hb, by show _ = _; rw [take_one E1.out, List.any_append, he.out]; simp [hv]⟩, rfl⟩)
      · go_wp2_with fail
        refine (H1.out _ hb).mono ?_
        rintro e w' ⟨rfl, hbn⟩
        have hb := hb.trans hbn
        clear hbn
        simp only [hv]
        go_wp2_with fail
        go_ret
        exact ⟨⟨k, rfl, by rw [List.any_eq_true.2 ⟨p1, List.mem_of_getElem? E1.out, hv⟩]; simp⟩, hb⟩
    · have e : k = n := by omega
      subst e
      go_wp2_with fail
      go_ret
      exact ⟨⟨-1, rfl, by have := he.out; rw [take_all HL.out] at this; rw [this]; rfl⟩, hb⟩
set_option maxHeartbeats 400000 in
theorem containsFuncCCargo_any (w : World) (g : FuncId) (cap : Value) (f : Cargo → Bool) (hf : PredCCargo w g cap f) (heg : Enters Try.prog g) (A : Option Addr) (n c : Nat) (l : List Cargo) (h : Sl Cargo.cs 3 w A n l) :
    Calls Try.prog 57 #[.slice A n c, .func (.func g) #[] #[cap]] w fun e w' => e = .returned (.bool (l.any f)) ∧ Bl w w' := by
  go_enter Try.func57, Try.ntmps57
  go_wp2_with fail
  refine (indexFuncCCargo_any _ g cap f hf heg A n c l h).mono ?_
  rintro e w' ⟨⟨i, rfl, hi⟩, hb⟩
  have HI := Lib.hid hi; clear hi
  go_wp2_with fail
  go_ret
  exact ⟨by rw [← HI.out]; rfl, hb⟩
set_option maxHeartbeats 400000 in
theorem isCargoFn_any (c : Cargo) (w0 : World) (g : Nat) (hc : ∀ W, Bl w0 W → W.cell? ⟨g, 0, none⟩ = some (.int .i64 c.Id)) :
    PredCCargo w0 58 (.pointer (some ⟨g, 0, none⟩)) (sameId c) := by
  intro p w hw
  have HS : Hid (sameId c p = (p.Id == c.Id)) := rfl
  generalize sameId c p = r at *
  obtain ⟨x, y, z⟩ := p
  simp only [Cargo.val] at *
  have hw1 : Bl w0 (w.alloc (.cells #[.int .i64 x, .int .i64 y, .int .i64 z] 50)) := hw.alloc _
  go_enter Try.func58, Try.ntmps58
  go_wp2
  go_ret
  exact ⟨by rw [HS.out]; rfl, (Bl.refl _).alloc _⟩
set_option maxHeartbeats 1000000 in
theorem isCargoList_any (A : Option Addr) (n c : Nat) (l : List Cargo) (w : World) (h : Sl Cargo.cs 3 w A n l) (hcap : n ≤ c) :
    Calls Try.prog 19 #[.slice A n c] w fun e w' => e = .returned (.bool (cargoOk l)) ∧ Bl w w' := by
  have bn := h.le
  have HL := Lib.hid h.1
  go_enter Try.func19, Try.ntmps19
  go_wp2
  go_loopw [7] (fun i wr => ∃ k : Nat, k ≤ n ∧ i = .int .i64 k ∧ Bl w wr ∧ Hid (fineUp l k = true)) (fun i _ => n - (intOf i).toNat)
  case atStart => exact ⟨0, Nat.zero_le _, rfl, Bl.refl _, rfl⟩
  case round =>
    obtain ⟨k, hk, rfl, hb, he⟩ := hrel
    by_cases hlt : k < n
    · have hst := (h.take_ (i := k) (by omega)).bl hb
      obtain ⟨b1, o1, p1, rfl, e1, c11, c12, c13⟩ := h.Cargo hlt
      have E1 := Lib.hid e1; clear e1
      have HT := Lib.hid hst; clear hst
      cases h1 : inB p1.Id 1 99
      · have HF := Lib.hid (not_fine E1.out (by simp [fineAt, vcargo, h1]))
        go_wp2_with (go_at_call 53; refine (inside_any _ _ _ _).mono ?_; rintro e w' ⟨rfl, rfl⟩)
        go_ret
        exact ⟨by rw [HF.out]; rfl, hb.alloc _⟩
      cases h2 : inB p1.Length 1 8
      · have HF := Lib.hid (not_fine E1.out (by simp [fineAt, vcargo, h2]))
        go_wp2_with (go_at_call 53; refine (inside_any _ _ _ _).mono ?_; rintro e w' ⟨rfl, rfl⟩)
        go_ret
        exact ⟨by rw [HF.out]; rfl, hb.alloc _⟩
      cases h3 : inB p1.Cones 0 3
      · have HF := Lib.hid (not_fine E1.out (by simp [fineAt, vcargo, h3]))
        go_wp2_with (go_at_call 53; refine (inside_any _ _ _ _).mono ?_; rintro e w' ⟨rfl, rfl⟩)
        go_ret
        exact ⟨by rw [HF.out]; rfl, hb.alloc _⟩
      go_wp2_with (go_at_call 53; refine (inside_any _ _ _ _).mono ?_; rintro e w' ⟨rfl, rfl⟩)
      have hbx := hb.alloc (.cells #[.int .i64 p1.Id, .int .i64 p1.Length, .int .i64 p1.Cones] 50)
      refine (containsFuncCCargo_any _ _ _ (sameId p1) (isCargoFn_any p1 _ wr.heap.size (Bl.all (by go_simp))) (enters_of Try.func58 (by kernel_rfl) rfl) _ _ _ _ (HT.out.bl ((Bl.refl wr).alloc _))).mono ?_
      rintro e w1 ⟨rfl, hbn⟩
      have hb := hbx.trans hbn
      clear hbn hbx
      cases h4 : (l.take k).any (sameId p1)
      · simp only [h4]
        go_wp2_with fail
        first | exact ⟨⟨k + 1, by omega, by go_num, hb, by show _ = _; rw [fineUp_one E1.out, he.out, fineAt, vcargo, h1, h2, h3, h4]; rfl⟩, by simp [intOf]; omega⟩ | (refine ⟨?_, by simp [intOf]; omega⟩; (repeat apply Exists.intro); exact ⟨⟨k + 1, by omega, by go_num, hb, by show _ = _; rw [fineUp_one E1.out, he.out, fineAt, vcargo, h1, h2, h3, h4]; rfl⟩, rfl⟩)
      · have HF := Lib.hid (not_fine E1.out (by simp [fineAt, h4]))
        simp only [h4]
        go_wp2_with fail
        go_ret
        exact ⟨by rw [HF.out]; rfl, hb⟩
    · have e : k = n := by omega
      subst e
      have HF : Hid (cargoOk l = decide (k ≤ 6)) := by
        show _ = _
        have := he.out
        rw [← HL.out] at this ⊢
        rw [cargoOk, this, Bool.and_true]
      cases h2 : decide (k ≤ 6)
      all_goals
        have h3 : decide ((k : Int) ≤ 6) = decide (k ≤ 6) := by simp; omega
        rw [h2] at h3
        go_wp2_with fail
        go_ret
        exact ⟨by rw [HF.out, h2]; rfl, hb⟩
set_option maxHeartbeats 1000000 in
theorem l7Good_any (A : Option Addr) (n c : Nat) (l : List Cargo) (w : World) (h : Sl Cargo.cs 3 w A n l) :
    Calls Try.prog 55 #[.slice A n c] w fun e w' => e = .returned (.bool (cargoOk l)) ∧ Bl w w' := by
  have bn := h.le
  have HL := Lib.hid h.1
  go_enter Try.func55, Try.ntmps55
  go_wp2
  go_loopw [3] (fun i wr => ∃ k : Nat, k ≤ n ∧ k ≤ 7 ∧ i = .int .i64 k ∧ Bl w wr ∧ Hid (fineUp l k = true)) (fun i _ => n - (intOf i).toNat)
  case atStart => exact ⟨0, Nat.zero_le _, by omega, rfl, Bl.refl _, rfl⟩
  case round =>
    obtain ⟨k, hk, hk7, rfl, hb, he⟩ := hrel
    by_cases hlt : k < n
    · by_cases hk6 : k ≤ 6
      · have k6 : decide ((k : Int) ≤ 6) = true := by simp; omega
        obtain ⟨b1, o1, p1, rfl, e1, c11, c12, c13⟩ := h.Cargo hlt
        have E1 := Lib.hid e1; clear e1
        cases h1 : inB p1.Id 1 99
        · have HF := Lib.hid (not_fine E1.out (by simp [fineAt, vcargo, h1]))
          go_wp2_with (go_at_call 51; refine (l1In_any _ _ _ _).mono ?_; rintro e w' ⟨rfl, rfl⟩)
          go_ret
          exact ⟨by rw [HF.out]; rfl, hb.alloc _⟩
        cases h2 : inB p1.Length 1 8
        · have HF := Lib.hid (not_fine E1.out (by simp [fineAt, vcargo, h2]))
          go_wp2_with (go_at_call 51; refine (l1In_any _ _ _ _).mono ?_; rintro e w' ⟨rfl, rfl⟩)
          go_ret
          exact ⟨by rw [HF.out]; rfl, hb.alloc _⟩
        cases h3 : inB p1.Cones 0 3
        · have HF := Lib.hid (not_fine E1.out (by simp [fineAt, vcargo, h3]))
          go_wp2_with (go_at_call 51; refine (l1In_any _ _ _ _).mono ?_; rintro e w' ⟨rfl, rfl⟩)
          go_ret
          exact ⟨by rw [HF.out]; rfl, hb.alloc _⟩
        go_wp2_with (go_at_call 51; refine (l1In_any _ _ _ _).mono ?_; rintro e w' ⟨rfl, rfl⟩)
        have HX : ∀ W, Bl (wr.alloc (.cells #[.int .i64 p1.Id, .int .i64 p1.Length, .int .i64 p1.Cones] 50)) W → W.cell? ⟨wr.heap.size, 0, none⟩ = some (.int .i64 p1.Id) := Bl.all (by go_simp)
        have hbx := hb.alloc (.cells #[.int .i64 p1.Id, .int .i64 p1.Length, .int .i64 p1.Cones] 50)
        have hb2 := Bl.refl (wr.alloc (.cells #[.int .i64 p1.Id, .int .i64 p1.Length, .int .i64 p1.Cones] 50))
        obtain ⟨wo, hwo⟩ : ∃ wo : World, wo = wr := ⟨_, rfl⟩
        subst hwo
        go_loopw [5] (fun i wx => ∃ j : Nat, j ≤ k ∧ i = .int .i64 j ∧ Bl (wo.alloc (.cells #[.int .i64 p1.Id, .int .i64 p1.Length, .int .i64 p1.Cones] 50)) wx ∧ Hid ((l.take j).any (sameId p1) = false)) (fun i _ => k - (intOf i).toNat)
        case atStart => exact ⟨0, Nat.zero_le _, rfl, hb2, rfl⟩
        case round =>
          obtain ⟨j, hj, rfl, hbj, hej⟩ := hrel
          have hbo := hbx.trans hbj
          by_cases hjk : j < k
          · obtain ⟨b2, o2, p2, hA, e2, c21, c22, c23⟩ := h.Cargo (i := j) (by omega)
            have hjn : j < n := by omega
            injection hA with hA
            injection hA with hA1 hA2
            subst hA1 hA2
            have E2 := Lib.hid e2; clear e2
            have C21 : ∀ W, Bl (wo.alloc (.cells #[.int .i64 p1.Id, .int .i64 p1.Length, .int .i64 p1.Cones] 50)) W → W.cell? ⟨b1, o1 + j * 3, none⟩ = some (.int .i64 p2.Id) := fun W hW => c21 W (hbx.trans hW)
            cases h4 : (p2.Id == p1.Id)
            · go_wp2
              refine region_bl (by kernel_rfl) (by kernel_rfl) hbj ?_
              repeat' (first | go_big_quiet_skip | (go_big_quiet_want; go_simp; (try go_bits); first | (refine ⟨_, fun _ _ => rfl, ?_⟩; go_big_quiet_on) | (apply Exists.intro; refine ⟨fun W hW => ?_, ?_⟩; (· go_simp; (try go_bits); rfl); go_big_quiet_on)))
              apply wpQuiet_nil
              intro W hb
              go_wp2
              first | exact ⟨⟨j + 1, by omega, by go_num, hb, by show _ = _; rw [take_one E2.out, List.any_append, hej.out]; simp [sameId, h4]⟩, by simp [intOf]; omega⟩ | (refine ⟨?_, by simp [intOf]; omega⟩; (repeat apply Exists.intro); exact ⟨⟨j + 1, by omega, by go_num, hb, by show _ = _; rw [take_one E2.out, List.any_append, hej.out]; simp [sameId, h4]⟩, rfl⟩)
            · have HF := Lib.hid (not_fine E1.out (by
                have : (l.take k).any (sameId p1) = true := List.any_eq_true.2 ⟨p2, List.mem_of_getElem? (i := j) (by rw [List.getElem?_take, if_pos hjk]; exact E2.out), h4⟩
                simp [fineAt, this]))
              go_wp2
              refine region_bl (by kernel_rfl) (by kernel_rfl) hbj ?_
              repeat' (first | go_big_quiet_skip | (go_big_quiet_want; go_simp; (try go_bits); first | (refine ⟨_, fun _ _ => rfl, ?_⟩; go_big_quiet_on) | (apply Exists.intro; refine ⟨fun W hW => ?_, ?_⟩; (· go_simp; (try go_bits); rfl); go_big_quiet_on)))
              apply wpQuiet_nil
              intro W hb
              go_wp2
              go_ret
              exact ⟨by rw [HF.out]; rfl, hbx.trans hb⟩
          · have e : j = k := by omega
            subst e
            go_wp2
            first | exact ⟨⟨j + 1, by omega, by omega, by go_num, hbo, by show _ = _; rw [fineUp_one E1.out, he.out, fineAt, vcargo, h1, h2, h3, hej.out]; rfl⟩, by simp [intOf]; omega⟩ | (refine ⟨?_, by simp [intOf]; omega⟩; (repeat apply Exists.intro); exact ⟨⟨j + 1, by omega, by omega, by go_num, hbo, by show _ = _; rw [fineUp_one E1.out, he.out, fineAt, vcargo, h1, h2, h3, hej.out]; rfl⟩, rfl⟩)
      · have k6 : decide ((k : Int) ≤ 6) = false := by simp; omega
        have HF := Lib.hid (long_not (l := l) (by rw [HL.out]; omega))
        have n6 : decide ((n : Int) ≤ 6) = false := by simp; omega
        go_wp2
        go_ret
        exact ⟨by rw [HF.out]; rfl, hb⟩
    · have e : k = n := by omega
      subst e
      have HF : Hid (cargoOk l = decide (k ≤ 6)) := by
        show _ = _
        have := he.out
        rw [← HL.out] at this ⊢
        rw [cargoOk, this, Bool.and_true]
      cases h2 : decide (k ≤ 6)
      all_goals
        have h3 : decide ((k : Int) ≤ 6) = decide (k ≤ 6) := by simp; omega
        rw [h2] at h3
        go_wp2_with fail
        go_ret
        exact ⟨by rw [HF.out, h2]; rfl, hb⟩
end Go.Proofs.Ytkeaobjcfkmjmaa
