/- The contracts of the library's comparisons of integers. -/
import Derived.Test.YtkeaobjcfkmjmaaInts
namespace Go.Proofs.Ytkeaobjcfkmjmaa
open Go.RowKit
def cmpZ (x y : Int) : Int := if x < y then -1 else if y < x then 1 else 0
def orZ : List Int → Int
  | [] => 0
  | x :: l => if x = 0 then orZ l else x
theorem orZ_skip {l : List Int} {k : Nat} {x : Int} (hx : l[k]? = some x) (h0 : x = 0) : orZ (l.drop k) = orZ (l.drop (k + 1)) := by
  have hk : k < l.length := (List.getElem?_eq_some_iff.1 hx).1
  rw [List.drop_eq_getElem_cons hk, (List.getElem?_eq_some_iff.1 hx).2, orZ, if_pos h0]
theorem orZ_stop {l : List Int} {k : Nat} {x : Int} (hx : l[k]? = some x) (h0 : ¬ x = 0) : orZ (l.drop k) = x := by
  have hk : k < l.length := (List.getElem?_eq_some_iff.1 hx).1
  rw [List.drop_eq_getElem_cons hk, (List.getElem?_eq_some_iff.1 hx).2, orZ, if_neg h0]
theorem le_top {n : Nat} (h : n ≤ 1000) : n ≤ topLen := by rw [topLen_eq]; omega
theorem sl_lit (w : World) (T : TypeId) (l : List Int) (hl : l.length ≤ topLen) : Sl ci 1 (w.alloc (.cells (l.map (Value.int .i64)).toArray T)) (some ⟨w.heap.size, 0, none⟩) l.length l := by
  refine ⟨rfl, hl, fun _ => ⟨_, 0, rfl, fun i x hi j u hu => ?_⟩⟩
  match j, hu with
  | 0, hu =>
    have := Option.some.inj hu
    subst this
    rw [Nat.mul_one, Nat.zero_add, Nat.add_zero, cell_of_row _ _ i _ T (0, 0) (heap_alloc_new w _)]
    simp [hi]
  | j + 1, hu => simp [ci] at hu
theorem sl_lit2 (w : World) (T : TypeId) (a b : Int) (H : Nat) (hH : w.heap.size = H) : Sl ci 1 (w.alloc (.cells #[.int .i64 a, .int .i64 b] T)) (some ⟨H, 0, none⟩) 2 [a, b] := by
  subst hH; exact sl_lit w T [a, b] (le_top (by simp))
theorem sl_lit3 (w : World) (T : TypeId) (a b c : Int) (H : Nat) (hH : w.heap.size = H) : Sl ci 1 (w.alloc (.cells #[.int .i64 a, .int .i64 b, .int .i64 c] T)) (some ⟨H, 0, none⟩) 3 [a, b, c] := by
  subst hH; exact sl_lit w T [a, b, c] (le_top (by simp))
set_option maxHeartbeats 400000 in
theorem isNaN_any (x : Int) (w : World) : Calls Try.prog 85 #[.int .i64 x] w fun e w' => e = .returned (.bool false) ∧ w = w' := by
  have h : (x != x) = false := by simp
  go_enter Try.func85, Try.ntmps85
  go_wp2
  go_ret
  exact ⟨by simp, rfl⟩
set_option maxHeartbeats 400000 in
theorem compare_any (x y : Int) (w : World) : Calls Try.prog 66 #[.int .i64 x, .int .i64 y] w fun e w' => e = .returned (.int .i64 (cmpZ x y)) ∧ w = w' := by
  by_cases h1 : x < y
  · have HR := Lib.hid (show cmpZ x y = -1 by simp [cmpZ, h1])
    go_enter Try.func66, Try.ntmps66
    go_wp2_with (go_at_call 85; refine (isNaN_any _ _).mono ?_; rintro e w' ⟨rfl, rfl⟩)
    go_ret
    exact ⟨by rw [HR.out]; rfl, rfl⟩
  by_cases h2 : y < x
  · have HR := Lib.hid (show cmpZ x y = 1 by simp [cmpZ, h1, h2])
    go_enter Try.func66, Try.ntmps66
    go_wp2_with (go_at_call 85; refine (isNaN_any _ _).mono ?_; rintro e w' ⟨rfl, rfl⟩)
    go_ret
    exact ⟨by rw [HR.out]; rfl, rfl⟩
  · have HR := Lib.hid (show cmpZ x y = 0 by simp [cmpZ, h1, h2])
    go_enter Try.func66, Try.ntmps66
    go_wp2_with (go_at_call 85; refine (isNaN_any _ _).mono ?_; rintro e w' ⟨rfl, rfl⟩)
    go_ret
    exact ⟨by rw [HR.out]; rfl, rfl⟩
set_option maxHeartbeats 400000 in
theorem or_any (A : Option Addr) (n c : Nat) (l : List Int) (w : World) (h : Sl ci 1 w A n l) :
    Calls Try.prog 65 #[.slice A n c] w fun e w' => e = .returned (.int .i64 (orZ l)) ∧ Bl w w' := by
  have bn := h.le
  have HL := Lib.hid h.1
  go_enter Try.func65, Try.ntmps65
  go_wp2
  go_loopw [8] (fun i wr => ∃ k : Nat, k ≤ n ∧ i = .int .i64 k ∧ Bl w wr ∧ Hid (orZ l = orZ (l.drop k))) (fun i _ => n - (intOf i).toNat)
  case atStart => exact ⟨0, Nat.zero_le _, rfl, Bl.refl _, rfl⟩
  case round =>
    obtain ⟨k, hk, rfl, hb, he⟩ := hrel
    by_cases hlt : k < n
    · obtain ⟨b1, o1, y, rfl, e1, c1⟩ := h.int hlt
      have q1 := c1 _ hb
      by_cases hy : y = 0
      · have HN := Lib.hid (he.out.trans (orZ_skip e1 hy))
        subst hy
        clear e1 c1
        go_wp2
        first | exact ⟨⟨k + 1, by omega, by go_num, hb, HN⟩, by simp [intOf]; omega⟩ | (refine ⟨?_, by simp [intOf]; omega⟩; (repeat apply Exists.intro); exact ⟨⟨k + 1, by omega, by go_num, hb, HN⟩, rfl⟩)
      · have HF := Lib.hid (he.out.trans (orZ_stop e1 hy))
        have ey : (y != 0) = true := by simpa using hy
        have ey2 : (y == 0) = false := by simpa using hy
        clear e1 c1
        go_wp2
        go_ret
        exact ⟨by rw [HF.out]; rfl, hb⟩
    · have e : k = n := by omega
      subst e
      have HF := Lib.hid (show orZ l = 0 by rw [he.out, List.drop_of_length_le (by rw [HL.out]; exact Nat.le_refl _)]; rfl)
      go_wp2
      go_ret
      exact ⟨by rw [HF.out]; rfl, hb⟩
end Go.Proofs.Ytkeaobjcfkmjmaa
