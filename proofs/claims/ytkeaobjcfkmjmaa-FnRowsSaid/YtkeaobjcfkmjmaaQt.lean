/- Plain laws on sorting by insertion: the result is sorted, and there is no other one. No program in sight. -/
import Derived.Test.YtkeaobjcfkmjmaaQs
namespace Go.Proofs.Ytkeaobjcfkmjmaa
open Go.RowKit
section
variable {α : Type} {r : α → α → Bool}
theorem posG_hi {o : List α} {x : α} : ∀ k q y, posG r o x k ≤ q → q < k → o[q]? = some y → r x y = true := by
  intro k
  induction k with
  | zero => intro q y _ h; omega
  | succ k ih =>
    intro q y h1 h2 hy
    simp only [posG] at h1
    split at h1
    · rename_i z hz
      split at h1
      · rename_i hb
        by_cases hq : q = k
        · subst hq
          rw [hz] at hy
          have e := Option.some.inj hy
          rw [← e]
          exact hb
        · exact ih q y h1 (by omega) hy
      · omega
    · omega
theorem posG_lo {o : List α} {x : α} : ∀ k y, k ≤ o.length → 0 < posG r o x k → o[posG r o x k - 1]? = some y → r x y = false := by
  intro k
  induction k with
  | zero => intro y _ h; simp [posG] at h
  | succ k ih =>
    intro y hk h hy
    have hz : o[k]? = some (o[k]'(by omega)) := List.getElem?_eq_getElem (by omega)
    generalize o[k]'(by omega) = z at hz
    by_cases hb : r x z = true
    · rw [posG_go (k := k + 1) (by omega) hz hb] at h hy
      exact ih y (by omega) h hy
    · rw [posG_stop (k := k + 1) (by omega) hz (by simpa using hb)] at hy
      rw [Nat.add_sub_cancel, hz] at hy
      rw [← Option.some.inj hy]
      simpa using hb
def Asc (r : α → α → Bool) (a b : α) : Prop := r b a = false
theorem insG_sorted (has : ∀ x y, r x y = true → r y x = false) (htr : ∀ x y z, r y x = false → r z y = false → r z x = false) {o : List α} {x : α} (h : o.Pairwise (Asc r)) : (insG r o x).Pairwise (Asc r) := by
  have hp := posG_le (r := r) o x o.length
  have hlo := posG_lo (r := r) (o := o) (x := x) o.length
  have hhi := posG_hi (r := r) (o := o) (x := x) o.length
  unfold insG
  generalize posG r o x o.length = p at *
  have hd : ∀ b ∈ o.drop p, r x b = true := by
    intro b hb
    obtain ⟨i, hi, e⟩ := List.mem_iff_getElem.1 hb
    rw [List.getElem_drop] at e
    rw [List.length_drop] at hi
    exact hhi (p + i) b (by omega) (by omega) (by rw [List.getElem?_eq_getElem (by omega), e])
  have ht : ∀ a ∈ o.take p, r x a = false := by
    intro a ha
    obtain ⟨i, hi, e⟩ := List.mem_take_iff_getElem.1 ha
    have hip : i < p := by omega
    have hol : p - 1 < o.length := by omega
    have h1 := hlo o[p - 1] (Nat.le_refl _) (by omega) (List.getElem?_eq_getElem hol)
    by_cases hq : i = p - 1
    · subst hq; rw [← e]; exact h1
    · have h2 := (List.pairwise_iff_getElem.1 h) i (p - 1) (by omega) hol (by omega)
      rw [← e]
      exact htr _ _ _ h2 h1
  have hw : (o.take p ++ o.drop p).Pairwise (Asc r) := by rw [List.take_append_drop]; exact h
  obtain ⟨w1, w2, w3⟩ := List.pairwise_append.1 hw
  refine List.pairwise_append.2 ⟨w1, List.pairwise_cons.2 ⟨fun b hb => has _ _ (hd b hb), w2⟩, fun a ha b hb => ?_⟩
  rcases List.mem_cons.1 hb with rfl | hb
  · exact ht a ha
  · exact w3 a ha b hb
theorem sortG_sorted (has : ∀ x y, r x y = true → r y x = false) (htr : ∀ x y z, r y x = false → r z y = false → r z x = false) (D : List α) : ∀ k, k ≤ D.length → (sortG r D k).Pairwise (Asc r) := by
  intro k
  induction k with
  | zero => intro _; exact List.Pairwise.nil
  | succ k ih =>
    intro hk
    rw [sortG_one (List.getElem?_eq_getElem (show k < D.length by omega))]
    exact insG_sorted has htr (ih (by omega))
/-- Two sorted lists of the same elements, no two of which tie, are one. -/
theorem asc_unique : ∀ l m : List α, l.Perm m → l.Pairwise (Asc r) → m.Pairwise (Asc r) → (∀ a ∈ l, ∀ b ∈ l, r a b = false → r b a = false → a = b) → l = m := by
  intro l
  induction l with
  | nil => intro m hp _ _ _; exact (List.nil_perm.1 hp).symm
  | cons a l ih =>
    intro m hp hl hm ht
    cases m with
    | nil => exact absurd hp.length_eq (by simp)
    | cons b m =>
      have hl' := List.pairwise_cons.1 hl
      have hm' := List.pairwise_cons.1 hm
      have e : a = b := by
        have ha : a ∈ b :: m := hp.mem_iff.1 (by simp)
        have hb : b ∈ a :: l := hp.mem_iff.2 (by simp)
        rcases List.mem_cons.1 ha with h | h
        · exact h
        · rcases List.mem_cons.1 hb with h' | h'
          · exact h'.symm
          · exact ht a (by simp) b hb (hm'.1 a h) (hl'.1 b h')
      subst e
      rw [ih m ((List.perm_cons _).1 hp) hl'.2 hm'.2 (fun a ha b hb => ht a (by simp [ha]) b (by simp [hb]))]
end
end Go.Proofs.Ytkeaobjcfkmjmaa
