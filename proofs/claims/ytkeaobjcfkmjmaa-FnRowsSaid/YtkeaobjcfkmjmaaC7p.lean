/- The contracts of UnsafePairs (on rows that aren't good) and of IsSafeRow in the program. -/
import Derived.Test.YtkeaobjcfkmjmaaC7o
namespace Go.Proofs.Ytkeaobjcfkmjmaa
open Go.RowKit
set_option maxHeartbeats 2000000 in
theorem implUnsafe_bad (A C : Option Addr) (n c p f : Nat) (l : List Cargo) (cs : List Int) (w : World) (h : Sl Cargo.cs 3 w A n l) (hc : Sl ci 1 w C p cs) (hnc : n ≤ c) (hok : rowOk l cs = false) :
    Calls Try.prog 43 #[.slice A n c, .slice C p f] w fun e w' => e = .returned (.tuple #[.slice none 0 0, .bool false]) ∧ Bl w w' := by
  have HL := Lib.hid h.1
  have HC := Lib.hid hc.1
  have H1 := Lib.hid (fun W hl => isCargoList_any A n c l W hl hnc)
  have H2 := Lib.hid (fun W hl => containsFuncInt_any _ _ unsafeFn_any (enters_of Try.func79 (by kernel_rfl) rfl) C p f cs W hl)
  have HB := Lib.hid hok
  clear hok
  cases h1 : cargoOk l
  · rw [h1] at H1
    go_enter Try.func43, Try.ntmps43
    go_wp2_with fail
    refine (H1.out _ h).mono ?_
    rintro e w1 ⟨rfl, hb1⟩
    go_wp2_with fail
    go_ret2
    exact ⟨rfl, hb1⟩
  · rw [h1] at H1
    by_cases hpn : p = n
    · subst hpn
      have HAN : Hid ((cs.any fun x => !inB x 0 200) = true) := by
        show _ = _
        have hb := HB.out
        rw [rowOk, h1, HC.out, HL.out] at hb
        have hcell : cellsOk cs = false := by simpa using hb
        rw [cellsOk, List.all_eq_false] at hcell
        obtain ⟨x, hx, hq⟩ := hcell
        rw [List.any_eq_true]
        exact ⟨x, hx, by simpa using hq⟩
      rw [HAN.out] at H2
      go_enter Try.func43, Try.ntmps43
      go_wp2_with fail
      refine (H1.out _ h).mono ?_
      rintro e w1 ⟨rfl, hb1⟩
      go_wp2_with fail
      refine (H2.out _ (hc.bl hb1)).mono ?_
      rintro e w2 ⟨rfl, hb2⟩
      have hb := hb1.trans hb2
      go_wp2_with fail
      go_ret2
      exact ⟨rfl, hb⟩
    · have hq : ¬ (p : Int) = (n : Int) := by omega
      clear hpn
      go_enter Try.func43, Try.ntmps43
      go_wp2_with fail
      refine (H1.out _ h).mono ?_
      rintro e w1 ⟨rfl, hb1⟩
      go_wp2_with fail
      go_ret2
      exact ⟨rfl, hb1⟩
def pairsOf (l : List Cargo) (cs : List Int) : List (Int × Int) := pairsTo (prP l cs) l.length l.length 0
def safeR (l : List Cargo) (cs : List Int) : Bool × Bool := if rowOk l cs = true then (decide ((pairsOf l cs).length = 0), true) else (false, false)
set_option maxHeartbeats 2000000 in
theorem implIsSafeRow_any (A C : Option Addr) (n c p f : Nat) (l : List Cargo) (cs : List Int) (w : World) (h : Sl Cargo.cs 3 w A n l) (hc : Sl ci 1 w C p cs) (hnc : n ≤ c) :
    Calls Try.prog 39 #[.slice A n c, .slice C p f] w fun e w' => e = .returned (.tuple #[.bool (safeR l cs).1, .bool (safeR l cs).2]) ∧ Bl w w' := by
  cases h1 : rowOk l cs
  · have H1 := Lib.hid (implUnsafe_bad A C n c p f l cs w h hc hnc h1)
    have HR := Lib.hid (show safeR l cs = (false, false) by rw [safeR, if_neg (by simp [h1])])
    clear h1
    go_enter Try.func39, Try.ntmps39
    go_wp2_with fail
    refine H1.out.mono ?_
    rintro e w1 ⟨rfl, hb⟩
    go_wp2_with fail
    go_ret2
    exact ⟨by rw [HR.out]; rfl, hb⟩
  · have H1 := Lib.hid (implUnsafe_any A C n c p f l cs w h hc hnc h1)
    have HR := Lib.hid (show safeR l cs = (decide ((pairsOf l cs).length = 0), true) by rw [safeR, if_pos h1])
    clear h1
    go_enter Try.func39, Try.ntmps39
    go_wp2_with fail
    refine H1.out.mono ?_
    rintro e w1 ⟨T, hp, _, B, m, d, gs, rfl, _, hl, hI, _, hb⟩
    have hm : m = (pairsOf l cs).length := by rw [← hl, hI.len, hp.length_eq]; rfl
    have HM := Lib.hid hm
    clear hm hp hl hI
    by_cases h0 : m = 0
    · subst h0
      have HQ : Hid (safeR l cs = (true, true)) := by show _ = _; rw [HR.out, ← HM.out]; rfl
      clear HR HM
      go_wp2_with fail
      go_ret2
      exact ⟨by rw [HQ.out]; rfl, hb⟩
    · have HQ : Hid (safeR l cs = (false, true)) := by show _ = _; rw [HR.out, ← HM.out]; simp [h0]
      have hq : ((m : Int) == 0) = false := by simp [h0]
      clear HR HM h0
      go_wp2_with fail
      (try simp only [hq])
      go_ret2
      exact ⟨by rw [HQ.out]; rfl, hb⟩
end Go.Proofs.Ytkeaobjcfkmjmaa
