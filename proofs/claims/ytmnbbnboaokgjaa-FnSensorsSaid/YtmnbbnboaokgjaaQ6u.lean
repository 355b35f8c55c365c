/- Plain laws on sensors that are voted on. No program in sight. -/
import Derived.Test.YtmnbbnboaokgjaaQ6t
import Derived.Test.YtmnbbnboaokgjaaC6w
namespace Go.Proofs.Ytmnbbnboaokgjaa
theorem sens_parts (l : List Int) (f : Int) : ((agreeR l f) = ([], false) ∧ votedR l f = (0, false)) ∨ (tripOk l = true ∧ agreeR l f = (agreeK l f 3, true) ∧ (agreeK l f 3).length < 2 ∧ votedR l f = (0, false)) ∨
    (tripOk l = true ∧ agreeR l f = (agreeK l f 3, true) ∧ 2 ≤ (agreeK l f 3).length ∧ votedR l f = (sumAg l (agreeK l f 3) (agreeK l f 3).length / ((agreeK l f 3).length : Nat), true)) := by
  by_cases h : tripOk l = true ∧ gauge f = true
  · have hA : agreeR l f = (agreeK l f 3, true) := if_pos h
    by_cases h2 : 2 ≤ (agreeK l f 3).length
    · exact .inr (.inr ⟨h.1, hA, h2, if_pos ⟨h, h2⟩⟩)
    · exact .inr (.inl ⟨h.1, hA, by omega, if_neg (fun e => h2 e.2)⟩)
  · exact .inl ⟨if_neg h, if_neg (fun e => h e.1)⟩
theorem agree_val {l : List Int} {m : Int} (ht : tripOk l = true) {k : Nat} (hk : k < (agreeK l m 3).length) : ∃ (i : Nat) (x : Int), (agreeK l m 3)[k]? = some (i : Int) ∧ l[i]? = some x := by
  obtain ⟨i, h1, h2⟩ := agree_at (List.getElem?_eq_getElem hk)
  have h3 : l.length = 3 := trip_len ht
  exact ⟨i, l[i], by rw [List.getElem?_eq_getElem hk, h1], List.getElem?_eq_getElem (by omega)⟩
theorem sum_bd {l g : List Int} {lo hi : Int} : ∀ k : Nat, (∀ j, j < k → ∃ (i : Nat) (x : Int), g[j]? = some (i : Int) ∧ l[i]? = some x ∧ lo ≤ x ∧ x ≤ hi) → lo * k ≤ sumAg l g k ∧ sumAg l g k ≤ hi * k
  | 0, _ => by simp [sumAg]
  | k + 1, h => by
    obtain ⟨i, x, h1, h2, h3, h4⟩ := h k (by omega)
    have ih := sum_bd (l := l) (g := g) (lo := lo) (hi := hi) k (fun j hj => h j (by omega))
    rw [sumAg_one h1 h2]
    have e1 : lo * ((k + 1 : Nat) : Int) = lo * k + lo := by rw [show ((k + 1 : Nat) : Int) = (k : Int) + 1 by omega, Int.mul_add, Int.mul_one]
    have e2 : hi * ((k + 1 : Nat) : Int) = hi * k + hi := by rw [show ((k + 1 : Nat) : Int) = (k : Int) + 1 by omega, Int.mul_add, Int.mul_one]
    rw [e1, e2]
    omega
theorem avg_bd {s lo hi : Int} {n : Nat} (hn : 0 < n) (h1 : lo * n ≤ s) (h2 : s ≤ hi * n) : lo ≤ s / (n : Nat) ∧ s / (n : Nat) ≤ hi := by
  have hp : (0 : Int) < (n : Int) := by omega
  refine ⟨(Int.le_ediv_iff_mul_le hp).2 h1, ?_⟩
  have : s / (n : Int) < hi + 1 := (Int.ediv_lt_iff_lt_mul hp).2 (by rw [Int.add_mul, Int.one_mul]; omega)
  omega
theorem med_parts (l : List Int) : (medianR l = (0, false)) ∨ (∃ a b c, l = [a, b, c] ∧ medianR l = (medZ a b c, true) ∧ medianR [c, a, b] = (medZ a b c, true) ∧ medianR [b, a, c] = (medZ a b c, true) ∧ hasB l (medZ a b c) = true) := by
  cases h : tripOk l
  · exact .inl (by simp [medianR, h])
  · obtain ⟨a, b, c, rfl, ha, hb, hc⟩ := trip_parts h
    have g : ∀ x : Int, 0 ≤ x ∧ x ≤ 2000 → gauge x = true := fun x hx => inB_iff.2 hx
    have k1 : tripOk [c, a, b] = true := by simp [tripOk, g a ha, g b hb, g c hc]
    have k2 : tripOk [b, a, c] = true := by simp [tripOk, g a ha, g b hb, g c hc]
    refine .inr ⟨a, b, c, rfl, ?_, ?_, ?_, ?_⟩
    · rw [medianR, if_pos h]; rfl
    · rw [medianR, if_pos k1]
      have : medL [c, a, b] = medZ a b c := by show medZ c a b = _; unfold medZ; omega
      rw [this]
    · rw [medianR, if_pos k2]
      have : medL [b, a, c] = medZ a b c := by show medZ b a c = _; unfold medZ; omega
      rw [this]
    · rw [hasB_iff]
      simp only [List.mem_cons, List.not_mem_nil, or_false]
      unfold medZ; omega
end Go.Proofs.Ytmnbbnboaokgjaa
