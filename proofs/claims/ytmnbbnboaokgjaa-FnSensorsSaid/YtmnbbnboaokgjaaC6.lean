/- The contracts of the functions on bounds that sensors give. -/
import Derived.Test.YtmnbbnboaokgjaaQ6
import Derived.Test.YtmnbbnboaokgjaaL1
import Derived.Test.YtmnbbnboaokgjaaHBound
import Derived.Test.YtmnbbnboaokgjaaHInt
import Derived.OneCell
namespace Go.Proofs.Ytmnbbnboaokgjaa
open Go.RowKit
theorem two_cell {w : World} {b : Nat} {v0 v1 : Value} {t : TypeId} (h : w.heap[b]? = some (.cells #[v0, v1] t (0, 0))) : w.cell? ⟨b, 0, none⟩ = some v0 ∧ w.cell? ⟨b, 1, none⟩ = some v1 := by simp [World.cell?, h]
theorem two_free {w : World} {b : Nat} {v0 v1 : Value} {t : TypeId} (h : w.heap[b]? = some (.cells #[v0, v1] t (0, 0))) : w.frozen? ⟨b, 0, none⟩ = false ∧ w.frozen? ⟨b, 1, none⟩ = false := by simp [World.frozen?, h]
theorem two_set0 {w : World} {b : Nat} {v0 v1 u : Value} {t : TypeId} (h : w.heap[b]? = some (.cells #[v0, v1] t (0, 0))) : (w.setCell ⟨b, 0, none⟩ u).heap[b]? = some (.cells #[u, v1] t (0, 0)) := by
  have hlt := lt_of_block h
  have h' : w.heap[b] = .cells #[v0, v1] t (0, 0) := by simpa [Array.getElem?_eq_getElem hlt] using h
  show (w.heap.modify b _)[b]? = _
  rw [Array.getElem?_eq_getElem (by simpa using hlt), Array.getElem_modify_self, h']
  rfl
theorem two_set1 {w : World} {b : Nat} {v0 v1 u : Value} {t : TypeId} (h : w.heap[b]? = some (.cells #[v0, v1] t (0, 0))) : (w.setCell ⟨b, 1, none⟩ u).heap[b]? = some (.cells #[v0, u] t (0, 0)) := by
  have hlt := lt_of_block h
  have h' : w.heap[b] = .cells #[v0, v1] t (0, 0) := by simpa [Array.getElem?_eq_getElem hlt] using h
  show (w.heap.modify b _)[b]? = _
  rw [Array.getElem?_eq_getElem (by simpa using hlt), Array.getElem_modify_self, h']
  rfl
theorem block_of {w w' : World} (h : Bl w w') {k : Nat} {o : Obj} (hk : w.heap[k]? = some o) : w'.heap[k]? = some o :=
  (Below.block h k (Array.getElem?_eq_some_iff.1 hk).1).trans hk
theorem other_set {w : World} {b b' j : Nat} {o : Obj} {u : Value} (h : w.heap[b]? = some o) (hne : b ≠ b') : (w.setCell ⟨b', j, none⟩ u).heap[b]? = some o := by
  rw [Below.heap_setCell _ _ _ _ hne]; exact h
set_option maxHeartbeats 400000 in
theorem isGauge_any (x : Int) (w : World) : Calls Try.prog 79 #[.int .i64 x] w fun e w' => e = .returned (.bool (inB x 0 2000)) ∧ w = w' := by
  have H1 := Lib.hid (fun w => inside_any x 0 2000 w)
  go_enter Try.func79, Try.ntmps79
  go_wp2_with fail
  refine (H1.out _).mono ?_
  rintro e w' ⟨rfl, rfl⟩
  go_wp2_with fail
  go_ret
  exact ⟨rfl, rfl⟩
set_option maxHeartbeats 400000 in
theorem l6Level_any (x : Int) (w : World) : Calls Try.prog 83 #[.int .i64 x] w fun e w' => e = .returned (.bool (inB x 0 2000)) ∧ w = w' := by
  have H1 := Lib.hid (fun w => l1In_any x 0 2000 w)
  go_enter Try.func83, Try.ntmps83
  go_wp2_with fail
  refine (H1.out _).mono ?_
  rintro e w' ⟨rfl, rfl⟩
  go_wp2_with fail
  go_ret
  exact ⟨rfl, rfl⟩
/-- A predicate of Bound handed over as a function value. -/
def PredBound (g : FuncId) (f : Bound → Bool) : Prop := ∀ (p : Bound) (w : World), Calls Try.prog g #[p.val] w fun e w' => e = .returned (.bool (f p)) ∧ Bl w w'
set_option maxHeartbeats 400000 in
theorem indexFuncBound_any (g : FuncId) (f : Bound → Bool) (hf : PredBound g f) (heg : Enters Try.prog g) (A : Option Addr) (n c : Nat) (l : List Bound) (w : World) (h : Sl Bound.cs 2 w A n l) :
    Calls Try.prog 116 #[.slice A n c, .func (.func g) #[] #[]] w fun e w' => (∃ i : Int, e = .returned (.int .i64 i) ∧ decide (0 ≤ i) = l.any f) ∧ Bl w w' := by
  have bn := h.le
  have HL := Lib.hid h.1
  have eg : ∀ args w, (callFunc g args).run Try.prog w = .ok (.enter g args) w := heg
  clear heg
  go_enter Try.func116, Try.ntmps116
  go_wp2
  go_loopw [8] (fun i wr => ∃ k : Nat, k ≤ n ∧ i = .int .i64 k ∧ Bl w wr ∧ Hid ((l.take k).any f = false)) (fun i _ => n - (intOf i).toNat)
  case atStart => exact ⟨0, Nat.zero_le _, rfl, Bl.refl _, rfl⟩
  case round =>
    obtain ⟨k, hk, rfl, hb, he⟩ := hrel
    by_cases hlt : k < n
    · obtain ⟨b1, o1, p1, rfl, e1, c11, c12⟩ := h.Bound hlt
      have E1 := Lib.hid e1; clear e1
      have H1 := Lib.hid (fun w => hf p1 w)
      cases hv : f p1
      · go_wp2_with fail
        refine (H1.out _).mono ?_
        rintro e w' ⟨rfl, hbn⟩
        have hb := hb.trans hbn
        clear hbn
        simp only [hv]
        go_wp2_with fail
        first | exact ⟨⟨k + 1, by omega, by go_num, hb, by show _ = _; rw [take_one E1.out, List.any_append, he.out]; simp [hv]⟩, by simp [intOf]; omega⟩ | (refine ⟨?_, by simp [intOf]; omega⟩; (repeat apply Exists.intro); exact ⟨⟨k + 1, by omega, by go_num, hb, by show _ = _; rw [take_one E1.out, List.any_append, he.out]; simp [hv]⟩, rfl⟩)
      · go_wp2_with fail
        refine (H1.out _).mono ?_
        rintro e w' ⟨rfl, hbn⟩
        have hb := hb.trans hbn
        clear hbn
        simp only [hv]
        go_wp2_with fail
        go_ret
        exact ⟨⟨k, rfl, by rw [List.any_eq_true.2 ⟨p1, List.mem_of_getElem? E1.out, hv⟩]; simp⟩, hb⟩
    · have e : k = n := by omega
      subst e
      go_wp2_with fail
      go_ret
      exact ⟨⟨-1, rfl, by have := he.out; rw [take_all HL.out] at this; rw [this]; rfl⟩, hb⟩
set_option maxHeartbeats 400000 in
theorem containsFuncBound_any (g : FuncId) (f : Bound → Bool) (hf : PredBound g f) (heg : Enters Try.prog g) (A : Option Addr) (n c : Nat) (l : List Bound) (w : World) (h : Sl Bound.cs 2 w A n l) :
    Calls Try.prog 109 #[.slice A n c, .func (.func g) #[] #[]] w fun e w' => e = .returned (.bool (l.any f)) ∧ Bl w w' := by
  go_enter Try.func109, Try.ntmps109
  go_wp2_with fail
  refine (indexFuncBound_any g f hf heg A n c l _ h).mono ?_
  rintro e w' ⟨⟨i, rfl, hi⟩, hb⟩
  have HI := Lib.hid hi; clear hi
  go_wp2_with fail
  go_ret
  exact ⟨by rw [← HI.out]; rfl, hb⟩
set_option maxHeartbeats 1000000 in
theorem areBoundsFn_any : PredBound 110 (fun p => !vBnd p) := by
  intro p w
  have H1 := Lib.hid (fun w => isGauge_any p.Low w)
  have H2 := Lib.hid (fun w => isGauge_any p.High w)
  have HV : Hid ((!vBnd p) = !(inB p.Low 0 2000 && inB p.High 0 2000 && !decide (p.High < p.Low))) := rfl
  obtain ⟨a, b⟩ := p
  simp only [Bound.val] at H1 H2 HV ⊢
  have hb0 : Bl w (w.alloc (.cells #[.int .i64 a, .int .i64 b] 25)) := (Bl.refl w).alloc _
  cases h1 : inB a 0 2000
  · go_enter Try.func110, Try.ntmps110
    go_wp2_with fail
    refine (H1.out _).mono ?_
    rintro e w' ⟨rfl, rfl⟩
    simp only [h1]
    go_wp2_with fail
    go_ret
    exact ⟨by rw [HV.out, h1]; rfl, hb0⟩
  cases h2 : inB b 0 2000
  · go_enter Try.func110, Try.ntmps110
    go_wp2_with fail
    refine (H1.out _).mono ?_
    rintro e w' ⟨rfl, rfl⟩
    simp only [h1]
    go_wp2_with fail
    refine (H2.out _).mono ?_
    rintro e w' ⟨rfl, rfl⟩
    simp only [h2]
    go_wp2_with fail
    go_ret
    exact ⟨by rw [HV.out, h1, h2]; rfl, hb0⟩
  by_cases h3 : b < a
  · go_enter Try.func110, Try.ntmps110
    go_wp2_with fail
    refine (H1.out _).mono ?_
    rintro e w' ⟨rfl, rfl⟩
    simp only [h1]
    go_wp2_with fail
    refine (H2.out _).mono ?_
    rintro e w' ⟨rfl, rfl⟩
    simp only [h2]
    go_wp2_with fail
    go_ret
    exact ⟨by rw [HV.out, h1, h2]; simp [h3], hb0⟩
  · go_enter Try.func110, Try.ntmps110
    go_wp2_with fail
    refine (H1.out _).mono ?_
    rintro e w' ⟨rfl, rfl⟩
    simp only [h1]
    go_wp2_with fail
    refine (H2.out _).mono ?_
    rintro e w' ⟨rfl, rfl⟩
    simp only [h2]
    go_wp2_with fail
    go_ret
    exact ⟨by rw [HV.out, h1, h2]; simp [h3], hb0⟩
set_option maxHeartbeats 1000000 in
theorem areBounds_any (A : Option Addr) (n c : Nat) (l : List Bound) (w : World) (h : Sl Bound.cs 2 w A n l) :
    Calls Try.prog 75 #[.slice A n c] w fun e w' => e = .returned (.bool (bndsOk l)) ∧ Bl w w' := by
  have bn := h.le
  have HL := Lib.hid h.1
  have H1 := Lib.hid (fun w => same_bl (inside_any (n : Int) 1 8 w))
  have hb := Bl.refl w
  cases h1 : inB n 1 8
  · have HR : Hid (bndsOk l = false) := by show _ = _; rw [bndsOk, HL.out, h1]; rfl
    go_enter Try.func75, Try.ntmps75
    go_wp2_with fail
    refine (H1.out _).mono ?_
    rintro e w' ⟨rfl, hbn⟩
    have hb := hb.trans hbn
    clear hbn
    simp only [h1]
    go_wp2_with fail
    go_ret
    exact ⟨by rw [HR.out]; rfl, hb⟩
  · have HR : Hid (bndsOk l = !(l.any fun p => !vBnd p)) := by show _ = _; rw [any_not, bndsOk, HL.out, h1]; simp
    go_enter Try.func75, Try.ntmps75
    go_wp2_with fail
    refine (H1.out _).mono ?_
    rintro e w' ⟨rfl, hbn⟩
    have hb := hb.trans hbn
    clear hbn
    simp only [h1]
    go_wp2_with fail
    refine (containsFuncBound_any _ _ areBoundsFn_any (enters_of Try.func110 (by kernel_rfl) rfl) A n c l _ (h.bl hb)).mono ?_
    rintro e w2 ⟨rfl, hb2⟩
    have hb := hb.trans hb2
    go_wp2_with fail
    go_ret
    exact ⟨by rw [HR.out]; rfl, hb⟩
theorem not_bnd {l : List Bound} {k : Nat} {b : Bound} (h : l[k]? = some b) (hv : vBnd b = false) : bndsOk l = false := by
  rw [bndsOk, all_not h hv, Bool.and_false]
set_option maxHeartbeats 1000000 in
theorem l6Bounds_any (A : Option Addr) (n c : Nat) (l : List Bound) (w : World) (h : Sl Bound.cs 2 w A n l) :
    Calls Try.prog 60 #[.slice A n c] w fun e w' => e = .returned (.bool (bndsOk l)) ∧ Bl w w' := by
  have bn := h.le
  have HL := Lib.hid h.1
  go_enter Try.func60, Try.ntmps60
  go_wp2_with fail
  go_loopw [3] (fun i wr => ∃ k : Nat, k ≤ n ∧ i = .int .i64 k ∧ Bl w wr ∧ Hid ((l.take k).all vBnd = true)) (fun i _ => n - (intOf i).toNat)
  case atStart => exact ⟨0, Nat.zero_le _, rfl, Bl.refl _, rfl⟩
  case round =>
    obtain ⟨k, hk, rfl, hb, he⟩ := hrel
    by_cases hlt : k < n
    · obtain ⟨b1, o1, p, rfl, ep, p1, p2⟩ := h.Bound hlt
      have E1 := Lib.hid ep; clear ep
      have HV : Hid (vBnd p = (inB p.Low 0 2000 && inB p.High 0 2000 && !decide (p.High < p.Low))) := rfl
      cases h1 : inB p.Low 0 2000
      · have HF := Lib.hid (not_bnd E1.out (by rw [HV.out, h1]; rfl))
        go_wp2_with fail
        refine region_bl (by kernel_rfl) (by kernel_rfl) hb ?_
        repeat' (first | go_big_quiet_skip | (go_big_quiet_want; go_simp; (try go_bits); first | (refine ⟨_, fun _ _ => rfl, ?_⟩; go_big_quiet_on) | (apply Exists.intro; (with_reducible refine ⟨fun W hW => ret_bl hW (same_bl (l6Level_any _ W)), ?_⟩); go_big_quiet_on) | (apply Exists.intro; refine ⟨fun W hW => ?_, ?_⟩; (· go_simp; (try go_bits); rfl); go_big_quiet_on)))
        apply wpQuiet_nil
        intro W hb
        go_wp2_with fail
        go_ret
        exact ⟨by rw [HF.out]; rfl, hb⟩
      cases h2 : inB p.High 0 2000
      · have HF := Lib.hid (not_bnd E1.out (by rw [HV.out, h1, h2]; rfl))
        go_wp2_with fail
        refine region_bl (by kernel_rfl) (by kernel_rfl) hb ?_
        repeat' (first | go_big_quiet_skip | (go_big_quiet_want; go_simp; (try go_bits); first | (refine ⟨_, fun _ _ => rfl, ?_⟩; go_big_quiet_on) | (apply Exists.intro; (with_reducible refine ⟨fun W hW => ret_bl hW (same_bl (l6Level_any _ W)), ?_⟩); go_big_quiet_on) | (apply Exists.intro; refine ⟨fun W hW => ?_, ?_⟩; (· go_simp; (try go_bits); rfl); go_big_quiet_on)))
        apply wpQuiet_nil
        intro W hb
        go_wp2_with fail
        go_ret
        exact ⟨by rw [HF.out]; rfl, hb⟩
      cases h3 : decide (p.High < p.Low)
      · have HN := Lib.hid (show vBnd p = true by rw [HV.out, h1, h2, h3]; rfl)
        go_wp2_with fail
        refine region_bl (by kernel_rfl) (by kernel_rfl) hb ?_
        repeat' (first | go_big_quiet_skip | (go_big_quiet_want; go_simp; (try go_bits); first | (refine ⟨_, fun _ _ => rfl, ?_⟩; go_big_quiet_on) | (apply Exists.intro; (with_reducible refine ⟨fun W hW => ret_bl hW (same_bl (l6Level_any _ W)), ?_⟩); go_big_quiet_on) | (apply Exists.intro; refine ⟨fun W hW => ?_, ?_⟩; (· go_simp; (try go_bits); rfl); go_big_quiet_on)))
        apply wpQuiet_nil
        intro W hb
        go_wp2_with fail
        first | exact ⟨⟨k + 1, by omega, by go_num, hb, by show _ = _; rw [all_one vBnd E1.out, he.out, HN.out]; rfl⟩, by simp [intOf]; omega⟩ | (refine ⟨?_, by simp [intOf]; omega⟩; (repeat apply Exists.intro); exact ⟨⟨k + 1, by omega, by go_num, hb, by show _ = _; rw [all_one vBnd E1.out, he.out, HN.out]; rfl⟩, rfl⟩)
      · have HF := Lib.hid (not_bnd E1.out (by rw [HV.out, h1, h2, h3]; rfl))
        go_wp2_with fail
        refine region_bl (by kernel_rfl) (by kernel_rfl) hb ?_
        repeat' (first | go_big_quiet_skip | (go_big_quiet_want; go_simp; (try go_bits); first | (refine ⟨_, fun _ _ => rfl, ?_⟩; go_big_quiet_on) | (apply Exists.intro; (with_reducible refine ⟨fun W hW => ret_bl hW (same_bl (l6Level_any _ W)), ?_⟩); go_big_quiet_on) | (apply Exists.intro; refine ⟨fun W hW => ?_, ?_⟩; (· go_simp; (try go_bits); rfl); go_big_quiet_on)))
        apply wpQuiet_nil
        intro W hb
        go_wp2_with fail
        go_ret
        exact ⟨by rw [HF.out]; rfl, hb⟩
    · have e : k = n := by omega
      subst e
      have HF : Hid (bndsOk l = inB (k : Int) 1 8) := by
        show _ = _
        have := he.out
        rw [take_all HL.out] at this
        rw [bndsOk, this, HL.out, Bool.and_true]
      have H1 := Lib.hid (fun w => same_bl (l1In_any (k : Int) 1 8 w))
      go_wp2_with fail
      refine (H1.out _).mono ?_
      rintro e w2 ⟨rfl, hb2⟩
      go_wp2_with fail
      go_ret
      exact ⟨by rw [HF.out]; rfl, hb.trans hb2⟩
set_option maxHeartbeats 1000000 in
theorem coverOf_any (A : Option Addr) (n c : Nat) (l : List Bound) (x : Int) (w : World) (h : Sl Bound.cs 2 w A n l) :
    Calls Try.prog 76 #[.slice A n c, .int .i64 x] w fun e w' => e = .returned (.int .i64 (cnt l x)) ∧ Bl w w' := by
  have bn := h.le
  have HL := Lib.hid h.1
  go_enter Try.func76, Try.ntmps76
  go_wp2_with fail
  go_loopw [5, 10] (fun u i wr => ∃ k : Nat, k ≤ n ∧ i = .int .i64 k ∧ u = .int .i64 (cnt (l.take k) x) ∧ Bl w wr) (fun _ i _ => n - (intOf i).toNat)
  case atStart => exact ⟨0, Nat.zero_le _, rfl, rfl, Bl.refl _⟩
  case round =>
    obtain ⟨k, hk, rfl, rfl, hb⟩ := hrel
    have hcr := cnt_rng (l.take k) x
    have hcl : (l.take k).length ≤ k := List.length_take_le _ _
    obtain ⟨cr0, cr1⟩ := hcr
    by_cases hlt : k < n
    · obtain ⟨b1, o1, p, rfl, ep, p1, p2⟩ := h.Bound hlt
      have HN := Lib.hid (cnt_one (x := x) ep)
      have H1 := Lib.hid (fun w => inside_any x p.Low p.High w)
      have g1 := p1 _ hb
      have g2 := p2 _ hb
      have HH : Hid (hasLv x p = inB x p.Low p.High) := rfl
      clear ep p1 p2
      generalize cnt (l.take k) x = cv at *
      cases h1 : inB x p.Low p.High
      all_goals
        rw [HH.out, h1] at HN
        go_wp2_with fail
        refine (H1.out _).mono ?_
        rintro e w' ⟨rfl, rfl⟩
        simp only [h1]
        go_wp2_with fail
        first | exact ⟨⟨k + 1, by omega, by go_num, by rw [HN.out]; rfl, hb.alloc _⟩, by simp [intOf]; omega⟩ | (refine ⟨?_, by simp [intOf]; omega⟩; (repeat apply Exists.intro); exact ⟨⟨k + 1, by omega, by go_num, by rw [HN.out]; rfl, hb.alloc _⟩, rfl⟩)
    · have e : k = n := by omega
      subst e
      have HE : Hid (cnt l x = cnt (l.take k) x) := by show _ = _; rw [take_all HL.out]
      go_wp2_with fail
      go_ret
      exact ⟨by rw [HE.out]; rfl, hb⟩
set_option maxHeartbeats 1000000 in
theorem l6Count_any (A : Option Addr) (n c : Nat) (l : List Bound) (x : Int) (w : World) (h : Sl Bound.cs 2 w A n l) :
    Calls Try.prog 102 #[.slice A n c, .int .i64 x] w fun e w' => e = .returned (.int .i64 (cnt l x)) ∧ Bl w w' := by
  have bn := h.le
  have HL := Lib.hid h.1
  go_enter Try.func102, Try.ntmps102
  go_wp2_with fail
  go_loopw [5, 6] (fun u i wr => ∃ k : Nat, k ≤ n ∧ i = .int .i64 k ∧ u = .int .i64 (cnt (l.take k) x) ∧ Bl w wr) (fun _ i _ => n - (intOf i).toNat)
  case atStart => exact ⟨0, Nat.zero_le _, rfl, rfl, Bl.refl _⟩
  case round =>
    obtain ⟨k, hk, rfl, rfl, hb⟩ := hrel
    have hcr := cnt_rng (l.take k) x
    have hcl : (l.take k).length ≤ k := List.length_take_le _ _
    obtain ⟨cr0, cr1⟩ := hcr
    by_cases hlt : k < n
    · obtain ⟨b1, o1, p, rfl, ep, p1, p2⟩ := h.Bound hlt
      have HN := Lib.hid (cnt_one (x := x) ep)
      have HH : Hid (hasLv x p = inB x p.Low p.High) := rfl
      clear ep
      generalize cnt (l.take k) x = cv at *
      cases h1 : inB x p.Low p.High
      all_goals
        rw [HH.out, h1] at HN
        go_wp2_with fail
        refine region_bl (by kernel_rfl) (by kernel_rfl) hb ?_
        repeat' (first | go_big_quiet_skip | (go_big_quiet_want; go_simp; (try go_bits); first | (refine ⟨_, fun _ _ => rfl, ?_⟩; go_big_quiet_on) | (apply Exists.intro; (with_reducible refine ⟨fun W hW => ret_bl hW (same_bl (l1In_any x p.Low p.High W)), ?_⟩); go_big_quiet_on) | (apply Exists.intro; refine ⟨fun W hW => ?_, ?_⟩; (· go_simp; (try go_bits); rfl); go_big_quiet_on)))
        apply wpQuiet_nil
        intro W hb
        simp only [h1]
        go_wp2_with fail
        first | exact ⟨⟨k + 1, by omega, by go_num, by rw [HN.out]; rfl, hb⟩, by simp [intOf]; omega⟩ | (refine ⟨?_, by simp [intOf]; omega⟩; (repeat apply Exists.intro); exact ⟨⟨k + 1, by omega, by go_num, by rw [HN.out]; rfl, hb⟩, rfl⟩)
    · have e : k = n := by omega
      subst e
      have HE : Hid (cnt l x = cnt (l.take k) x) := by show _ = _; rw [take_all HL.out]
      go_wp2_with fail
      go_ret
      exact ⟨by rw [HE.out]; rfl, hb⟩
end Go.Proofs.Ytmnbbnboaokgjaa
