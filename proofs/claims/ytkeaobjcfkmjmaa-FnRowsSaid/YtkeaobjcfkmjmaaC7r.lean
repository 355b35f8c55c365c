/- The contracts of UnsafePairs and IsSafeRow in both programs. -/
import Derived.Test.YtkeaobjcfkmjmaaC7q
import Derived.Test.YtkeaobjcfkmjmaaC7p
namespace Go.Proofs.Ytkeaobjcfkmjmaa
open Go.RowKit
/-- The table of the unsafe pairs: sorted; empty if the row isn't good. -/
def TabOf (l : List Cargo) (cs : List Int) (T : List (Int × Int)) : Prop :=
  (rowOk l cs = true → T.Perm (pairsOf l cs) ∧ T.Pairwise (Asc pLt)) ∧ (rowOk l cs = false → T = [])
theorem row_cargo {l : List Cargo} {cs : List Int} (h : rowOk l cs = true) : cargoOk l = true := by
  simp only [rowOk, Bool.and_eq_true, decide_eq_true_eq] at h
  exact h.2.1
theorem TabOf.same {l : List Cargo} {cs : List Int} {S T : List (Int × Int)} (h : TabOf l cs S) (k : TabOf l cs T) : S = T := by
  cases e : rowOk l cs
  · rw [h.2 e, k.2 e]
  · have a := h.1 e
    have b := k.1 e
    exact asc_unique S T (a.1.trans b.1.symm) a.2 b.2 fun a _ b _ => pLt_eq
theorem TabOf.of_S {l : List Cargo} {cs : List Int} {T : List (Int × Int)} (hok : rowOk l cs = true) (h : T.Perm (pairsTo (prS l cs) l.length l.length 0)) (hs : T.Pairwise (Asc pLt)) : TabOf l cs T :=
  ⟨fun _ => ⟨h.trans (pairs_same (row_cargo hok)), hs⟩, fun e => by rw [hok] at e; cases e⟩
theorem TabOf.of_P {l : List Cargo} {cs : List Int} {T : List (Int × Int)} (hok : rowOk l cs = true) (h : T.Perm (pairsTo (prP l cs) l.length l.length 0)) (hs : T.Pairwise (Asc pLt)) : TabOf l cs T :=
  ⟨fun _ => ⟨h, hs⟩, fun e => by rw [hok] at e; cases e⟩
theorem TabOf.nil {l : List Cargo} {cs : List Int} (h : rowOk l cs = false) : TabOf l cs [] := ⟨fun e => (by rw [h] at e; cases e), fun _ => rfl⟩
set_option maxHeartbeats 2000000 in
theorem specUnsafe_law (A : Option Addr) (n c : Nat) (l : List Cargo) (C : Option Addr) (p f : Nat) (cs : List Int) (w : World) (h : Sl Cargo.cs 3 w A n l) (hc : Sl ci 1 w C p cs) :
    Calls Try.prog 42 #[.slice A n c, .slice C p f] w fun e w' => ∃ T, TabOf l cs T ∧ NewTab T (fun v => .tuple #[v, .bool (rowOk l cs)]) w e w' := by
  have H1 := Lib.hid (l7Cells_any A C n c p f l cs w h hc)
  cases h1 : rowOk l cs
  · rw [h1] at H1
    have HB := Lib.hid h1
    clear h1
    go_enter Try.func42, Try.ntmps42
    go_wp2_with fail
    refine H1.out.mono ?_
    rintro e w1 ⟨rfl, hb⟩
    go_wp2_with fail
    go_ret2
    exact ⟨[], TabOf.nil HB.out, _, 0, 0, [], rfl, World.ownsRow_made _ #[] 0 hb.le (Nat.zero_le _) (by simp), rfl, In.nil, by omega, hb.alloc _⟩
  · rw [h1] at H1
    have H2 := Lib.hid (fun W h hc => l7Pairs_any A C n c p f l cs W h hc h1)
    have HB := Lib.hid h1
    clear h1
    go_enter Try.func42, Try.ntmps42
    go_wp2_with fail
    refine H1.out.mono ?_
    rintro e w1 ⟨rfl, hb⟩
    go_wp2_with fail
    refine (H2.out _ (h.bl hb) (hc.bl hb)).mono ?_
    rintro e w2 ⟨T, hp, hs, B, m, d, gs, rfl, ho, hl, hi, hm, hbn⟩
    have HT := Lib.hid (TabOf.of_S HB.out hp hs)
    have HO := Lib.hid ho
    have HL := Lib.hid hl
    have HI := Lib.hid hi
    clear hp hs ho hl hi H1 H2
    go_wp2_with fail
    go_ret2
    exact ⟨T, HT.out, _, _, _, gs, rfl, own_mono HO.out hb.le, HL.out, HI.out.down hb.le, hm, hb.trans hbn⟩
set_option maxHeartbeats 2000000 in
theorem specIsSafeRow_law (A : Option Addr) (n c : Nat) (l : List Cargo) (C : Option Addr) (p f : Nat) (cs : List Int) (w : World) (h : Sl Cargo.cs 3 w A n l) (hc : Sl ci 1 w C p cs) :
    Calls Try.prog 37 #[.slice A n c, .slice C p f] w fun e w' => e = .returned (.tuple #[.bool (safeR l cs).1, .bool (safeR l cs).2]) ∧ Bl w w' := by
  have H1 := Lib.hid (l7Cells_any A C n c p f l cs w h hc)
  cases h1 : rowOk l cs
  · rw [h1] at H1
    have HR := Lib.hid (show safeR l cs = (false, false) by rw [safeR, if_neg (by simp [h1])])
    clear h1
    go_enter Try.func37, Try.ntmps37
    go_wp2_with fail
    refine H1.out.mono ?_
    rintro e w1 ⟨rfl, hb⟩
    go_wp2_with fail
    go_ret2
    exact ⟨by rw [HR.out]; rfl, hb⟩
  · rw [h1] at H1
    have H2 := Lib.hid (fun W h hc => l7Pairs_any A C n c p f l cs W h hc h1)
    have HR := Lib.hid (show safeR l cs = (decide ((pairsOf l cs).length = 0), true) by rw [safeR, if_pos h1])
    have HB := Lib.hid h1
    clear h1
    go_enter Try.func37, Try.ntmps37
    go_wp2_with fail
    refine H1.out.mono ?_
    rintro e w1 ⟨rfl, hb⟩
    go_wp2_with fail
    refine (H2.out _ (h.bl hb) (hc.bl hb)).mono ?_
    rintro e w2 ⟨T, hp, hs, B, m, d, gs, rfl, _, hl, hI, _, hbn⟩
    have hm : m = (pairsOf l cs).length := by rw [← hl, hI.len, ((TabOf.of_S HB.out hp hs).1 HB.out).1.length_eq]
    have HM := Lib.hid hm
    have hb2 := hb.trans hbn
    clear hm hp hs hl hI hbn hb
    by_cases h0 : m = 0
    · subst h0
      have HQ : Hid (safeR l cs = (true, true)) := by show _ = _; rw [HR.out, ← HM.out]; rfl
      clear HR HM
      go_wp2_with fail
      go_ret2
      exact ⟨by rw [HQ.out]; rfl, hb2⟩
    · have HQ : Hid (safeR l cs = (false, true)) := by show _ = _; rw [HR.out, ← HM.out]; simp [h0]
      have hq : ((m : Int) == 0) = false := by simp [h0]
      clear HR HM h0
      go_wp2_with fail
      (try simp only [hq])
      go_ret2
      exact ⟨by rw [HQ.out]; rfl, hb2⟩
theorem implUnsafe_law (A : Option Addr) (n c : Nat) (l : List Cargo) (C : Option Addr) (p f : Nat) (cs : List Int) (w : World) (h : Sl Cargo.cs 3 w A n l) (hc : Sl ci 1 w C p cs) (hnc : n ≤ c) :
    Calls Try.prog 43 #[.slice A n c, .slice C p f] w fun e w' => ∃ T, TabOf l cs T ∧ NewTab T (fun v => .tuple #[v, .bool (rowOk l cs)]) w e w' := by
  cases h1 : rowOk l cs
  · refine (implUnsafe_bad A C n c p f l cs w h hc hnc h1).mono ?_
    rintro e w' ⟨rfl, hb⟩
    exact ⟨[], TabOf.nil h1, none, 0, 0, [], rfl, World.ownsRow_nil _ _ _ _, rfl, In.nil, by omega, hb⟩
  · refine (implUnsafe_any A C n c p f l cs w h hc hnc h1).mono ?_
    rintro e w' ⟨T, hp, hs, hN⟩
    exact ⟨T, TabOf.of_P h1 hp hs, hN⟩
theorem implIsSafeRow_law (A : Option Addr) (n c : Nat) (l : List Cargo) (C : Option Addr) (p f : Nat) (cs : List Int) (w : World) (h : Sl Cargo.cs 3 w A n l) (hc : Sl ci 1 w C p cs) (hnc : n ≤ c) (_ : p ≤ f) :
    Calls Try.prog 39 #[.slice A n c, .slice C p f] w fun e w' => e = .returned (.tuple #[.bool (safeR l cs).1, .bool (safeR l cs).2]) ∧ Bl w w' :=
  implIsSafeRow_any A C n c p f l cs w h hc hnc
end Go.Proofs.Ytkeaobjcfkmjmaa
