/- Plain laws on the most dangerous vessel. No program in sight. -/
import Derived.Test.YtkeaobjcfkmjmaaQ7
import Derived.Test.YtkeaobjcfkmjmaaCmp
namespace Go.Proofs.Ytkeaobjcfkmjmaa
open Go.RowKit
def dang (x m : Cargo) : Bool := decide (m.Cones < x.Cones) || (decide (x.Cones = m.Cones) && (decide (m.Length < x.Length) || (decide (x.Length = m.Length) && decide (x.Id < m.Id))))
def bestK (l : List Cargo) : Nat → Cargo
  | 0 => carAt l 0
  | k + 1 => if dang (carAt l (k + 1)) (bestK l k) = true then carAt l (k + 1) else bestK l k
def dangR (l : List Cargo) : Int × Bool := if cargoOk l = true ∧ ¬ l.length = 0 then ((bestK l (l.length - 1)).Id, true) else (0, false)
theorem bestK_one {l : List Cargo} {k : Nat} {x : Cargo} (h : l[k + 1]? = some x) : bestK l (k + 1) = if dang x (bestK l k) = true then x else bestK l k := by
  rw [bestK, carAt_eq h]
theorem bestK_at {l : List Cargo} {k : Nat} {x : Cargo} (hk : 1 ≤ k) (h : l[k]? = some x) : bestK l (k + 1 - 1) = if dang x (bestK l (k - 1)) = true then x else bestK l (k - 1) := by
  obtain ⟨j, rfl⟩ : ∃ j, k = j + 1 := ⟨k - 1, by omega⟩
  exact bestK_one h
theorem bestK_in {l : List Cargo} : ∀ k, k < l.length → bestK l k ∈ l := by
  intro k
  induction k with
  | zero => intro h; rw [bestK, carAt_eq (List.getElem?_eq_getElem h)]; exact List.getElem_mem h
  | succ k ih =>
    intro h
    rw [bestK_one (List.getElem?_eq_getElem h)]
    split
    · exact List.getElem_mem h
    · exact ih (by omega)
theorem dang_cmp (a b : Cargo) : decide (orZ [cmpZ b.Cones a.Cones, cmpZ b.Length a.Length, cmpZ a.Id b.Id] < 0) = dang a b := by
  rw [Bool.eq_iff_iff]
  simp only [dang, decide_eq_true_eq, Bool.or_eq_true, Bool.and_eq_true, orZ, cmpZ]
  constructor
  · intro h
    by_cases h1 : b.Cones < a.Cones
    · exact .inl h1
    · by_cases h2 : a.Cones < b.Cones
      · simp [h1, h2] at h
      · simp only [h1, h2, if_false, if_true] at h
        refine .inr ⟨by omega, ?_⟩
        by_cases h3 : b.Length < a.Length
        · exact .inl h3
        · by_cases h4 : a.Length < b.Length
          · simp [h3, h4] at h
          · simp only [h3, h4, if_false, if_true] at h
            refine .inr ⟨by omega, ?_⟩
            by_cases h5 : a.Id < b.Id
            · exact h5
            · by_cases h6 : b.Id < a.Id
              · simp [h5, h6] at h
              · simp [h5, h6] at h
  · rintro (h1 | ⟨h1, h2⟩)
    · simp [h1]
    · have e1 : ¬ b.Cones < a.Cones := by omega
      have e2 : ¬ a.Cones < b.Cones := by omega
      simp only [e1, e2, if_false, if_true]
      rcases h2 with h3 | ⟨h3, h4⟩
      · simp [h3]
      · have e3 : ¬ b.Length < a.Length := by omega
        have e4 : ¬ a.Length < b.Length := by omega
        simp [e3, e4, h4]
end Go.Proofs.Ytkeaobjcfkmjmaa
