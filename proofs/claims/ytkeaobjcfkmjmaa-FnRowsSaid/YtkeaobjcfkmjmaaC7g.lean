/- Is a vessel among some? -/
import Derived.Test.YtkeaobjcfkmjmaaHCargo
namespace Go.Proofs.Ytkeaobjcfkmjmaa
open Go.RowKit
def hasC (l : List Cargo) (x : Cargo) : Bool := decide (x ∈ l)
theorem hasC_iff {l : List Cargo} {x : Cargo} : hasC l x = true ↔ x ∈ l := by simp [hasC]
theorem hasC_no {l : List Cargo} {x : Cargo} : hasC l x = false ↔ x ∉ l := by simp [hasC]
theorem hasC_more {l : List Cargo} {k : Nat} {x y : Cargo} (h : l[k]? = some y) (hk : hasC (l.take k) x = false) (hy : ¬ x = y) : hasC (l.take (k + 1)) x = false := by
  rw [hasC_no] at *
  rw [take_one h, List.mem_append, List.mem_singleton]
  rintro (h | h)
  · exact hk h
  · exact hy h
set_option maxHeartbeats 1000000 in
theorem indexC_any (A : Option Addr) (n c : Nat) (l : List Cargo) (x : Cargo) (w : World) (h : Sl Cargo.cs 3 w A n l) :
    Calls Try.prog 89 #[.slice A n c, x.val] w fun e w' => (∃ i : Int, e = .returned (.int .i64 i) ∧ decide (0 ≤ i) = hasC l x) ∧ Bl w w' := by
  have bn := h.le
  have HL := Lib.hid h.1
  obtain ⟨xa, xb, xc⟩ := x
  simp only [Cargo.val]
  have F00 : ∀ W, Bl (w.alloc (.cells #[.int .i64 xa, .int .i64 xb, .int .i64 xc] 50)) W → W.cell? ⟨w.heap.size, 0, none⟩ = some (.int .i64 xa) := Bl.all (by go_simp)
  have F01 : ∀ W, Bl (w.alloc (.cells #[.int .i64 xa, .int .i64 xb, .int .i64 xc] 50)) W → W.cell? ⟨w.heap.size, 1, none⟩ = some (.int .i64 xb) := Bl.all (by go_simp)
  have F02 : ∀ W, Bl (w.alloc (.cells #[.int .i64 xa, .int .i64 xb, .int .i64 xc] 50)) W → W.cell? ⟨w.heap.size, 2, none⟩ = some (.int .i64 xc) := Bl.all (by go_simp)
  have hb := Bl.refl (w.alloc (.cells #[.int .i64 xa, .int .i64 xb, .int .i64 xc] 50))
  have hb0 : Hid (Bl w (w.alloc (.cells #[.int .i64 xa, .int .i64 xb, .int .i64 xc] 50))) := (Bl.refl w).alloc _
  go_enter Try.func89, Try.ntmps89
  go_wp2
  go_loopw [5, 8] (fun _ i wr => ∃ k : Nat, k ≤ n ∧ i = .int .i64 k ∧ Bl (w.alloc (.cells #[.int .i64 xa, .int .i64 xb, .int .i64 xc] 50)) wr ∧ Hid (hasC (l.take k) ⟨xa, xb, xc⟩ = false)) (fun _ i _ => n - (intOf i).toNat)
  case atStart => exact ⟨0, Nat.zero_le _, rfl, hb, rfl⟩
  case round =>
    clear hb
    obtain ⟨k, hk, rfl, hb, he⟩ := hrel
    have hbw := hb0.out.trans hb
    by_cases hlt : k < n
    · obtain ⟨b1, o1, p1, rfl, e1, c11, c12, c13⟩ := h.Cargo hlt
      have C1 : ∀ W, Bl wr W → W.cell? ⟨b1, o1 + k * 3, none⟩ = _ := fun W hW => c11 W (hbw.trans hW)
      have C2 : ∀ W, Bl wr W → W.cell? ⟨b1, o1 + k * 3 + 1, none⟩ = _ := fun W hW => c12 W (hbw.trans hW)
      have C3 : ∀ W, Bl wr W → W.cell? ⟨b1, o1 + k * 3 + 2, none⟩ = _ := fun W hW => c13 W (hbw.trans hW)
      have X1 : ∀ W, Bl wr W → W.cell? ⟨w.heap.size, 0, none⟩ = _ := fun W hW => F00 W (hb.trans hW)
      have X2 : ∀ W, Bl wr W → W.cell? ⟨w.heap.size, 1, none⟩ = _ := fun W hW => F01 W (hb.trans hW)
      have X3 : ∀ W, Bl wr W → W.cell? ⟨w.heap.size, 2, none⟩ = _ := fun W hW => F02 W (hb.trans hW)
      have E1 := Lib.hid e1; clear e1 c11 c12 c13
      obtain ⟨ya, yb, yc⟩ := p1
      simp only at C1 C2 C3
      have hne : (xa = ya ∧ xb = yb ∧ xc = yc) ∨ ¬ xa = ya ∨ (xa = ya ∧ ¬ xb = yb) ∨ (xa = ya ∧ xb = yb ∧ ¬ xc = yc) := by
        by_cases h1 : xa = ya
        · by_cases h2 : xb = yb
          · by_cases h3 : xc = yc
            · exact .inl ⟨h1, h2, h3⟩
            · exact .inr (.inr (.inr ⟨h1, h2, h3⟩))
          · exact .inr (.inr (.inl ⟨h1, h2⟩))
        · exact .inr (.inl h1)
      rcases hne with ⟨rfl, rfl, rfl⟩ | hne
      · have HF := Lib.hid (show decide (0 ≤ (k : Int)) = hasC l ⟨xa, xb, xc⟩ by
          rw [hasC_iff.2 (List.mem_of_getElem? E1.out)]; simp)
        go_wp2
        refine region_bl (by kernel_rfl) (by kernel_rfl) (Bl.refl wr) ?_
        repeat' (first | go_big_quiet_skip | (go_big_quiet_want; go_simp; (try go_bits); first | (refine ⟨_, fun _ _ => rfl, ?_⟩; go_big_quiet_on) | (apply Exists.intro; refine ⟨fun W hW => ?_, ?_⟩; (· go_simp; (try go_bits); rfl); go_big_quiet_on)))
        apply wpQuiet_nil
        intro W hb
        go_wp2
        go_ret
        exact ⟨⟨_, rfl, HF.out⟩, hbw.trans hb⟩
      · have HN := Lib.hid (hasC_more E1.out he.out (x := ⟨xa, xb, xc⟩) (by
          intro e
          injection e with e1 e2 e3
          rcases hne with h1 | ⟨_, h1⟩ | ⟨_, _, h1⟩
          · exact h1 e1
          · exact h1 e2
          · exact h1 e3))
        have hb9 := hb
        clear hb
        rcases hne with h1 | ⟨rfl, h1⟩ | ⟨rfl, rfl, h1⟩
        all_goals
          go_wp2
          refine region_bl (by kernel_rfl) (by kernel_rfl) (Bl.refl wr) ?_
          repeat' (first | go_big_quiet_skip | (go_big_quiet_want; go_simp; (try go_bits); first | (refine ⟨_, fun _ _ => rfl, ?_⟩; go_big_quiet_on) | (apply Exists.intro; refine ⟨fun W hW => ?_, ?_⟩; (· go_simp; (try go_bits); rfl); go_big_quiet_on)))
          apply wpQuiet_nil
          intro W hb
          go_wp2
          first | exact ⟨⟨k + 1, by omega, by go_num, hb9.trans hb, HN⟩, by simp [intOf]; omega⟩ | (refine ⟨?_, by simp [intOf]; omega⟩; (repeat apply Exists.intro); exact ⟨⟨k + 1, by omega, by go_num, hb9.trans hb, HN⟩, rfl⟩)
    · have e : k = n := by omega
      subst e
      have HF : Hid (decide (0 ≤ (-1 : Int)) = hasC l ⟨xa, xb, xc⟩) := by
        show _ = _
        have := he.out
        rw [take_all HL.out] at this
        rw [this]
        rfl
      go_wp2
      go_ret
      exact ⟨⟨_, rfl, HF.out⟩, hbw⟩
set_option maxHeartbeats 400000 in
theorem containsC_any (A : Option Addr) (n c : Nat) (l : List Cargo) (x : Cargo) (w : World) (h : Sl Cargo.cs 3 w A n l) :
    Calls Try.prog 77 #[.slice A n c, x.val] w fun e w' => e = .returned (.bool (hasC l x)) ∧ Bl w w' := by
  have H1 := Lib.hid (fun W hl => indexC_any A n c l x W hl)
  obtain ⟨xa, xb, xc⟩ := x
  simp only [Cargo.val] at H1 ⊢
  have F00 : ∀ W, Bl (w.alloc (.cells #[.int .i64 xa, .int .i64 xb, .int .i64 xc] 50)) W → W.cell? ⟨w.heap.size, 0, none⟩ = some (.int .i64 xa) := Bl.all (by go_simp)
  have F01 : ∀ W, Bl (w.alloc (.cells #[.int .i64 xa, .int .i64 xb, .int .i64 xc] 50)) W → W.cell? ⟨w.heap.size, 1, none⟩ = some (.int .i64 xb) := Bl.all (by go_simp)
  have F02 : ∀ W, Bl (w.alloc (.cells #[.int .i64 xa, .int .i64 xb, .int .i64 xc] 50)) W → W.cell? ⟨w.heap.size, 2, none⟩ = some (.int .i64 xc) := Bl.all (by go_simp)
  have hb := Bl.refl (w.alloc (.cells #[.int .i64 xa, .int .i64 xb, .int .i64 xc] 50))
  have hb0 : Hid (Bl w (w.alloc (.cells #[.int .i64 xa, .int .i64 xb, .int .i64 xc] 50))) := (Bl.refl w).alloc _
  go_enter Try.func77, Try.ntmps77
  go_wp2_with fail
  refine (H1.out _ (h.bl hb0.out)).mono ?_
  rintro e w' ⟨⟨i, rfl, hi⟩, hbn⟩
  have HI := Lib.hid hi; clear hi
  go_wp2_with fail
  go_ret
  exact ⟨by rw [← HI.out]; rfl, hb0.out.trans hbn⟩
end Go.Proofs.Ytkeaobjcfkmjmaa
