/- The contracts of the functions on lists of integers: is a number in a list. -/
import Derived.Test.YtmnbbnboaokgjaaL1
import Derived.Test.YtmnbbnboaokgjaaBase3
import Derived.Test.YtmnbbnboaokgjaaHInt
namespace Go.Proofs.Ytmnbbnboaokgjaa
open Go.RowKit
def hasB (l : List Int) (x : Int) : Bool := decide (x ∈ l)
theorem hasB_iff {l : List Int} {x : Int} : hasB l x = true ↔ x ∈ l := by simp [hasB]
theorem hasB_no {l : List Int} {x : Int} : hasB l x = false ↔ x ∉ l := by simp [hasB]
theorem has_more {l : List Int} {k : Nat} {x y : Int} (h : l[k]? = some y) (hk : hasB (l.take k) x = false) (hy : ¬ y = x) : hasB (l.take (k + 1)) x = false := by
  rw [hasB_no] at *
  rw [take_one h]
  simp only [List.mem_append, List.mem_singleton, not_or]
  exact ⟨hk, fun e => hy e.symm⟩
theorem has_at {l : List Int} {k : Nat} {x : Int} (h : l[k]? = some x) : hasB l x = true := hasB_iff.2 (List.mem_of_getElem? h)
set_option maxHeartbeats 400000 in
theorem l1Has_any (A : Option Addr) (n c : Nat) (l : List Int) (x : Int) (w : World) (h : Sl ci 1 w A n l) :
    Calls Try.prog 96 #[.slice A n c, .int .i64 x] w fun e w' => e = .returned (.bool (hasB l x)) ∧ Bl w w' := by
  have bn := h.le
  have HL := Lib.hid h.1
  go_enter Try.func96, Try.ntmps96
  go_wp2
  go_loopw [5] (fun i wr => ∃ k : Nat, k ≤ n ∧ i = .int .i64 k ∧ Bl w wr ∧ Hid (hasB (l.take k) x = false)) (fun i _ => n - (intOf i).toNat)
  case atStart => exact ⟨0, Nat.zero_le _, rfl, Bl.refl _, rfl⟩
  case round =>
    obtain ⟨k, hk, rfl, hb, he⟩ := hrel
    by_cases hlt : k < n
    · obtain ⟨b1, o1, y, rfl, e1, c1⟩ := h.int hlt
      have q1 := c1 _ hb
      have E1 := Lib.hid e1; clear e1 c1
      by_cases hy : y = x
      · have HF := Lib.hid (has_at (by rw [← hy]; exact E1.out : l[k]? = some x))
        have ey : (y == x) = true := by simpa using hy
        clear hy
        go_wp2
        go_ret
        exact ⟨by rw [HF.out]; rfl, hb⟩
      · have HN := Lib.hid (has_more E1.out he.out hy)
        have ey : (y == x) = false := by simpa using hy
        clear hy
        go_wp2
        first | exact ⟨⟨k + 1, by omega, by go_num, hb, HN⟩, by simp [intOf]; omega⟩ | (refine ⟨?_, by simp [intOf]; omega⟩; (repeat apply Exists.intro); exact ⟨⟨k + 1, by omega, by go_num, hb, HN⟩, rfl⟩)
    · have e : k = n := by omega
      subst e
      have HF : Hid (hasB l x = false) := by show _ = _; have := he.out; rwa [take_all HL.out] at this
      go_wp2
      go_ret
      exact ⟨by rw [HF.out]; rfl, hb⟩
/-- The first place of a number, or -1. -/
def isIdx (l : List Int) (x i : Int) : Prop := (i = -1 ∧ hasB l x = false) ∨ (∃ k : Nat, i = k ∧ l[k]? = some x ∧ hasB (l.take k) x = false)
set_option maxHeartbeats 400000 in
theorem index_any (A : Option Addr) (n c : Nat) (l : List Int) (x : Int) (w : World) (h : Sl ci 1 w A n l) :
    Calls Try.prog 98 #[.slice A n c, .int .i64 x] w fun e w' => (∃ i : Int, e = .returned (.int .i64 i) ∧ isIdx l x i) ∧ Bl w w' := by
  have bn := h.le
  have HL := Lib.hid h.1
  go_enter Try.func98, Try.ntmps98
  go_wp2
  go_loopw [8] (fun i wr => ∃ k : Nat, k ≤ n ∧ i = .int .i64 k ∧ Bl w wr ∧ Hid (hasB (l.take k) x = false)) (fun i _ => n - (intOf i).toNat)
  case atStart => exact ⟨0, Nat.zero_le _, rfl, Bl.refl _, rfl⟩
  case round =>
    obtain ⟨k, hk, rfl, hb, he⟩ := hrel
    by_cases hlt : k < n
    · obtain ⟨b1, o1, y, rfl, e1, c1⟩ := h.int hlt
      have q1 := c1 _ hb
      have E1 := Lib.hid e1; clear e1 c1
      by_cases hy : y = x
      · have HF := Lib.hid (show isIdx l x k from .inr ⟨k, rfl, by rw [← hy]; exact E1.out, he.out⟩)
        have ey : (x == y) = true := by simpa using hy.symm
        clear hy
        go_wp2
        go_ret
        exact ⟨⟨_, rfl, HF.out⟩, hb⟩
      · have HN := Lib.hid (has_more E1.out he.out hy)
        have ey : (x == y) = false := by simp; exact fun e => hy e.symm
        clear hy
        go_wp2
        first | exact ⟨⟨k + 1, by omega, by go_num, hb, HN⟩, by simp [intOf]; omega⟩ | (refine ⟨?_, by simp [intOf]; omega⟩; (repeat apply Exists.intro); exact ⟨⟨k + 1, by omega, by go_num, hb, HN⟩, rfl⟩)
    · have e : k = n := by omega
      subst e
      have HF : Hid (hasB l x = false) := by show _ = _; have := he.out; rwa [take_all HL.out] at this
      go_wp2
      go_ret
      exact ⟨⟨_, rfl, .inl ⟨rfl, HF.out⟩⟩, hb⟩
theorem isIdx_has {l : List Int} {x i : Int} (h : isIdx l x i) : decide (0 ≤ i) = hasB l x := by
  rcases h with ⟨rfl, h⟩ | ⟨k, rfl, h, _⟩
  · rw [h]; rfl
  · rw [has_at h]; simp
set_option maxHeartbeats 400000 in
theorem contains_any (A : Option Addr) (n c : Nat) (l : List Int) (x : Int) (w : World) (h : Sl ci 1 w A n l) :
    Calls Try.prog 97 #[.slice A n c, .int .i64 x] w fun e w' => e = .returned (.bool (hasB l x)) ∧ Bl w w' := by
  have H1 := Lib.hid (index_any A n c l x w h)
  go_enter Try.func97, Try.ntmps97
  go_wp2_with fail
  refine H1.out.mono ?_
  rintro e w' ⟨⟨i, rfl, hi⟩, hb⟩
  have HI := Lib.hid (isIdx_has hi); clear hi
  go_wp2_with fail
  go_ret
  exact ⟨by rw [← HI.out]; rfl, hb⟩
set_option maxHeartbeats 400000 in
theorem copyInts_any (A : Option Addr) (n c : Nat) (l : List Int) (w : World) (h : Sl ci 1 w A n l) (hn : n ≤ 1048576) :
    Calls Try.prog 114 #[.slice A n c] w (NewRes ci 1 3 l (fun v => v) w) := by
  have HL := Lib.hid h.1
  go_enter Try.func114, Try.ntmps114
  obtain ⟨i0, hi0, hz0, hz1, hz2⟩ := info_parts infoInt
  go_wp2_with (at_builtin; refine wpList_append_new _ rfl _ _ _ rfl 3 i0 _ 1 8 Try.underlying33 hi0 hz0 hz1 hz2 rfl (by omega) ci_len ci_one _ rfl (by first | rfl | simp) A n c l rfl (h) (by unfold maxLen; omega) (by omega) ?_)
  clear hi0 hz0 hz1 hz2
  intro B d w1 ho hb
  go_wp2_with fail
  go_ret
  exact NewRes.own (F := fun v => v) ho (Bl.refl w) HL.out hn hb
end Go.Proofs.Ytmnbbnboaokgjaa
