/- The contracts of the sorting of tables of two numbers a row. -/
import Derived.Test.YtkeaobjcfkmjmaaTb
import Derived.Test.YtkeaobjcfkmjmaaSh7
import Derived.Test.YtkeaobjcfkmjmaaKx
import Derived.Test.YtkeaobjcfkmjmaaQ7f
import Derived.Test.YtkeaobjcfkmjmaaCmp
namespace Go.Proofs.Ytkeaobjcfkmjmaa
open Go.RowKit Go.Lib Go.Sort
def cmpP (p q : Int × Int) : Int := if cmpZ p.1 q.1 = 0 then cmpZ p.2 q.2 else cmpZ p.1 q.1
theorem cmpP_yes {p q : Int × Int} (h : cmpZ p.1 q.1 = 0) : cmpP p q = cmpZ p.2 q.2 := if_pos h
theorem cmpP_no {p q : Int × Int} (h : ¬ cmpZ p.1 q.1 = 0) : cmpP p q = cmpZ p.1 q.1 := if_neg h
set_option maxHeartbeats 1000000 in
theorem comparePair_any (g k : Nat) (a b c d : Int) (W : World) (hg : W.heap[g]? = some (.cells #[.int .i64 a, .int .i64 b] 3 (0, 0))) (hk : W.heap[k]? = some (.cells #[.int .i64 c, .int .i64 d] 3 (0, 0))) :
    Calls Try.prog 81 #[.slice (some ⟨g, 0, none⟩) 2 2, .slice (some ⟨k, 0, none⟩) 2 2] W fun e w' => e = .returned (.int .i64 (cmpP (a, b) (c, d))) ∧ W = w' := by
  obtain ⟨g0, g1⟩ := two_cell hg
  obtain ⟨k0, k1⟩ := two_cell hk
  have HY := Lib.hid (fun h => cmpP_yes (p := (a, b)) (q := (c, d)) h)
  have HN := Lib.hid (fun h => cmpP_no (p := (a, b)) (q := (c, d)) h)
  have H1 := Lib.hid (compare_any a c W)
  have H2 := Lib.hid (compare_any b d W)
  simp only at HY HN
  generalize cmpP (a, b) (c, d) = r at *
  generalize cmpZ a c = s at *
  generalize cmpZ b d = t at *
  clear hg hk
  go_enter Try.func81, Try.ntmps81
  go_wp2_with fail
  go_loopw [5, 6, 7, 8, 11] (fun _ _ _ _ i wr => wr = W ∧ (i = .int .i64 0 ∨ (i = .int .i64 1 ∧ Hid (r = t)) ∨ (i = .int .i64 2 ∧ Hid (r = 0)))) (fun _ _ _ _ i _ => 2 - (intOf i).toNat)
  case atStart => exact ⟨rfl, .inl rfl⟩
  case round =>
    obtain ⟨rfl, rfl | ⟨rfl, hr⟩ | ⟨rfl, hr⟩⟩ := hrel
    · go_wp2_with fail
      refine H1.out.mono ?_
      rintro e w' ⟨rfl, rfl⟩
      by_cases hs : s = 0
      · have HR : Hid (r = t) := HY.out hs
        have hs' : (s != 0) = false := by simp [hs]
        clear hs
        go_wp2_with fail
        exact ⟨⟨by simp, .inr (.inl ⟨rfl, HR⟩)⟩, by simp [intOf]⟩
      · have HR : Hid (r = s) := HN.out hs
        have hs' : (s != 0) = true := by simp [hs]
        clear hs
        go_wp2_with fail
        go_ret
        exact ⟨by rw [HR.out]; rfl, rfl⟩
    · go_wp2_with fail
      refine H2.out.mono ?_
      rintro e w' ⟨rfl, rfl⟩
      by_cases ht : t = 0
      · have HR : Hid (r = 0) := hr.out.trans ht
        have hs' : (t != 0) = false := by simp [ht]
        clear ht hr
        go_wp2_with fail
        exact ⟨⟨by simp, .inr (.inr ⟨rfl, HR⟩)⟩, by simp [intOf]⟩
      · have hs' : (t != 0) = true := by simp [ht]
        clear ht
        go_wp2_with fail
        go_ret
        exact ⟨by rw [hr.out]; rfl, rfl⟩
    · go_wp2_with fail
      go_ret
      exact ⟨by rw [hr.out]; rfl, rfl⟩
end Go.Proofs.Ytkeaobjcfkmjmaa
