/- The laws' helpers that compare lists of basins and of numbers, and add numbers up. -/
import Derived.Test.YtpgghmhbkgkkiaaHBasin
import Derived.Test.YtpgghmhbkgkkiaaHInt
namespace Go.Proofs.Ytpgghmhbkgkkiaa
open Go.RowKit
set_option maxHeartbeats 400000 in
theorem vBasins_any (A B : Option Addr) (n m c d : Nat) (l r : List Basin) (w : World) (ha : Sl Basin.cs 3 w A n l) (hr : Sl Basin.cs 3 w B m r) :
    Calls Try.prog 47 #[.slice A n c, .slice B m d] w fun e w' => e = .returned (.bool (eqB l r)) ∧ Bl w w' := by
  have bn := ha.le
  have bm := hr.le
  by_cases hnm : n = m
  case neg =>
    have h1 : ((n : Int) == m) = false := by simp; omega
    have h2 : ((n : Int) != m) = true := by simp; omega
    have h3 : eqB l r = false := eqB_no (by rintro rfl; exact hnm (ha.1.symm.trans hr.1))
    have H3 := Lib.hid h3; clear h3
    go_enter Try.func47, Try.ntmps47
    go_wp2
    go_ret
    exact ⟨by rw [H3.out]; rfl, Bl.refl _⟩
  subst hnm
  have HA := Lib.hid ha.1
  have HB := Lib.hid hr.1
  go_enter Try.func47, Try.ntmps47
  go_wp2
  go_loopw [5] (fun i wr => ∃ k : Nat, k ≤ n ∧ i = .int .i64 k ∧ Bl w wr ∧ Hid (l.take k = r.take k)) (fun i _ => n - (intOf i).toNat)
  case atStart => exact ⟨0, Nat.zero_le _, rfl, Bl.refl _, rfl⟩
  case round =>
    obtain ⟨k, hk, rfl, hbl, he⟩ := hrel
    by_cases hlt : k < n
    · obtain ⟨b1, o1, p1, rfl, e1, c11, c12, c13⟩ := ha.Basin hlt
      obtain ⟨b2, o2, p2, rfl, e2, c21, c22, c23⟩ := hr.Basin hlt
      have E1 := Lib.hid e1; clear e1
      have E2 := Lib.hid e2; clear e2
      by_cases hp : p1 = p2
      · have hrr : Hid (l.take (k + 1) = r.take (k + 1)) := by
          show l.take (k + 1) = r.take (k + 1)
          rw [List.take_add_one, List.take_add_one, he.out, E1.out, E2.out, hp]
        subst hp
        go_wp2
        refine region_bl (by kernel_rfl) (by kernel_rfl) hbl ?_
        repeat' (first | go_big_quiet_skip | (go_big_quiet_want; go_simp; (try go_bits); first | (refine ⟨_, fun _ _ => rfl, ?_⟩; go_big_quiet_on) | (apply Exists.intro; refine ⟨fun W hW => ?_, ?_⟩; (· go_simp; (try go_bits); rfl); go_big_quiet_on)))
        apply wpQuiet_nil
        intro W hb
        go_wp2
        first | exact ⟨⟨k + 1, by omega, by go_num, hb, hrr⟩, by simp [intOf]; omega⟩ | (refine ⟨?_, by simp [intOf]; omega⟩; (repeat apply Exists.intro); exact ⟨⟨k + 1, by omega, by go_num, hb, hrr⟩, rfl⟩)
      · have hfin : eqB l r = false := eqB_no (by
          intro h; apply hp
          have := E1.out; rw [h, E2.out] at this; exact (Option.some.inj this).symm)
        have HF := Lib.hid hfin; clear hfin
        obtain ⟨x, y, z⟩ := p1
        obtain ⟨x', y', z'⟩ := p2
        simp only at c11 c12 c13 c21 c22 c23
        have hne : ¬ x = x' ∨ (x = x' ∧ ¬ y = y') ∨ (x = x' ∧ y = y' ∧ ¬ z = z') := by
          by_cases h1 : x = x'
          · by_cases h2 : y = y'
            · exact .inr (.inr ⟨h1, h2, fun h3 => hp (by rw [h1, h2, h3])⟩)
            · exact .inr (.inl ⟨h1, h2⟩)
          · exact .inl h1
        clear hp
        rcases hne with h1 | ⟨rfl, h1⟩ | ⟨rfl, rfl, h1⟩
        all_goals
          go_wp2
          refine region_bl (by kernel_rfl) (by kernel_rfl) hbl ?_
          repeat' (first | go_big_quiet_skip | (go_big_quiet_want; go_simp; (try go_bits); first | (refine ⟨_, fun _ _ => rfl, ?_⟩; go_big_quiet_on) | (apply Exists.intro; refine ⟨fun W hW => ?_, ?_⟩; (· go_simp; (try go_bits); rfl); go_big_quiet_on)))
          apply wpQuiet_nil
          intro W hb
          go_wp2
          go_ret
          exact ⟨by rw [HF.out]; rfl, hb⟩
    · have e : k = n := by omega
      subst e
      have hfin : eqB l r = true := eqB_yes (by
        have := he.out
        rw [List.take_of_length_le (by rw [HA.out]; exact Nat.le_refl _), List.take_of_length_le (by rw [HB.out]; exact Nat.le_refl _)] at this
        exact this)
      have HF := Lib.hid hfin; clear hfin
      go_wp2
      go_ret
      exact ⟨by rw [HF.out]; rfl, hbl⟩

set_option maxHeartbeats 1000000 in
theorem vSum_zero (A : Option Addr) (n c : Nat) (l : List Int) (w : World) (h : Sl ci 1 w A n l) (hz : ∀ x ∈ l, x = 0) : Calls Try.prog 55 #[.slice A n c] w fun e w' => e = .returned (.int .i64 0) ∧ Bl w w' := by
  have bn := h.le
  go_enter Try.func55, Try.ntmps55
  go_wp2_with fail
  go_loopw [3, 4] (fun u v wr => ∃ k : Nat, k ≤ n ∧ u = .int .i64 0 ∧ v = .int .i64 k ∧ Bl w wr) (fun _ v _ => n - (intOf v).toNat)
  case atStart => exact ⟨0, Nat.zero_le _, rfl, rfl, Bl.refl _⟩
  case round =>
    obtain ⟨k, hk, rfl, rfl, hb⟩ := hrel
    by_cases hlt : k < n
    · obtain ⟨p1, o1, x, rfl, e1, c1⟩ := h.int hlt
      obtain rfl := hz x (List.mem_of_getElem? e1)
      have f1 := c1 _ hb
      go_wp2_with fail
      first | exact ⟨⟨k + 1, by omega, by go_num, by go_num, hb⟩, by simp [intOf]; omega⟩ | (refine ⟨?_, by simp [intOf]; omega⟩; (repeat apply Exists.intro); exact ⟨⟨k + 1, by omega, by go_num, by go_num, hb⟩, rfl⟩)
    · have e : k = n := by omega
      subst e
      go_wp2_with fail
      go_ret
      exact ⟨rfl, hb⟩
end Go.Proofs.Ytpgghmhbkgkkiaa
