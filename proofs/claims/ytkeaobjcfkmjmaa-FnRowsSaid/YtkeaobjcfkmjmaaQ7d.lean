/- Plain laws on cones: the gap is mutual, the most dangerous vessel has most cones. No program in sight. -/
import Derived.Test.YtkeaobjcfkmjmaaQ7b
import Derived.Test.YtkeaobjcfkmjmaaC7c
namespace Go.Proofs.Ytkeaobjcfkmjmaa
open Go.RowKit
theorem gap_mutual (x y : Int) : neededGapR y x = neededGapR x y := by
  have e : gapZ y x = gapZ x y := by
    unfold gapZ
    by_cases h1 : x = 3 <;> by_cases h2 : y = 3 <;> simp [h1, h2]
    omega
  unfold neededGapR
  by_cases h1 : inB x 0 3 = true <;> by_cases h2 : inB y 0 3 = true <;> simp [h1, h2, e]
theorem best_cones {l : List Cargo} : ∀ k j, j ≤ k → (carAt l j).Cones ≤ (bestK l k).Cones := by
  intro k
  induction k with
  | zero => intro j hj; have : j = 0 := by omega
            subst this; exact Int.le_refl _
  | succ k ih =>
    intro j hj
    rw [bestK]
    by_cases hd : dang (carAt l (k + 1)) (bestK l k) = true
    · rw [if_pos hd]
      by_cases e : j = k + 1
      · subst e; exact Int.le_refl _
      · have h1 := ih j (by omega)
        simp only [dang, Bool.or_eq_true, Bool.and_eq_true, decide_eq_true_eq] at hd
        omega
    · rw [if_neg hd]
      by_cases e : j = k + 1
      · subst e
        simp only [dang, Bool.or_eq_true, Bool.and_eq_true, decide_eq_true_eq] at hd
        omega
      · exact ih j (by omega)
theorem ids_apart {l : List Cargo} (h : cargoOk l = true) {i j : Nat} {p q : Cargo} (hp : l[i]? = some p) (hq : l[j]? = some q) (e : p.Id = q.Id) : i = j := by
  have h2 : fineUp l l.length = true := by simp only [cargoOk, Bool.and_eq_true] at h; exact h.2
  have key : ∀ {i j : Nat} {p q : Cargo}, l[i]? = some p → l[j]? = some q → p.Id = q.Id → ¬ i < j := by
    intro i j p q hp hq e hij
    have hj := (List.getElem?_eq_some_iff.1 hq).1
    have := fine_at _ h2 hj hq
    simp only [fineAt, Bool.and_eq_true, Bool.not_eq_true'] at this
    have h3 := List.any_eq_false.1 this.2 p (List.mem_of_getElem? (i := i) (by rw [List.getElem?_take]; simp [hij, hp]))
    simp [sameId, e] at h3
  have := key hp hq e
  have := key hq hp e.symm
  omega
theorem dang_known (l : List Cargo) : (dangR l).2 = (cargoOk l && decide (0 < l.length)) := by
  unfold dangR
  by_cases h1 : cargoOk l = true <;> by_cases h2 : l.length = 0
  · simp [h1, h2]
  · have : 0 < l.length := by omega
    simp [h1, h2, this]
  · simp [h1]
  · simp [h1]
/-- What FnCones asks of the most dangerous vessel. -/
theorem cones_facts {l : List Cargo} {id : Int} (h : dangR l = (id, true)) {i : Nat} {p : Cargo} (hp : l[i]? = some p) (he : p.Id = id) : (∀ (k : Nat) (q : Cargo), l[k]? = some q → q.Cones ≤ p.Cones) ∧ shareR l 10 = (decide (p.Cones ≤ 1), true) := by
  unfold dangR at h
  split at h
  · rename_i h1
    obtain ⟨hok, hl0⟩ := h1
    have e1 : (bestK l (l.length - 1)).Id = id := (Prod.mk.inj h).1
    have hin := bestK_in (l := l) (l.length - 1) (by omega)
    obtain ⟨j, hj, ej⟩ := List.getElem_of_mem hin
    have hj' : l[j]? = some (bestK l (l.length - 1)) := by rw [List.getElem?_eq_getElem hj, ej]
    have eij := ids_apart hok hp hj' (he.trans e1.symm)
    subst eij
    have ep : p = bestK l (l.length - 1) := Option.some.inj (hp.symm.trans hj')
    have hall : ∀ (k : Nat) (q : Cargo), l[k]? = some q → q.Cones ≤ p.Cones := by
      intro k q hq
      have hk := (List.getElem?_eq_some_iff.1 hq).1
      have := best_cones (l := l) (l.length - 1) k (by omega)
      rw [carAt_eq hq, ← ep] at this
      exact this
    refine ⟨hall, ?_⟩
    have e2 : l.any hasCone = decide (1 < p.Cones) := by
      rw [Bool.eq_iff_iff, List.any_eq_true]
      simp only [hasCone, decide_eq_true_eq]
      constructor
      · rintro ⟨q, hq, h2⟩
        obtain ⟨k, hk, ek⟩ := List.getElem_of_mem hq
        have := hall k q (by rw [List.getElem?_eq_getElem hk, ek])
        omega
      · intro h2
        exact ⟨p, List.mem_of_getElem? hp, h2⟩
    have e3 : inB 10 0 1000 = true := by decide
    rw [shareR, if_pos ⟨hok, e3⟩, e2]
    have : (!decide (1 < p.Cones)) = decide (p.Cones ≤ 1) := by
      by_cases h3 : 1 < p.Cones
      · have : ¬ p.Cones ≤ 1 := by omega
        simp [h3, this]
      · have : p.Cones ≤ 1 := by omega
        simp [h3, this]
    rw [this]
    rfl
  · cases (Prod.mk.inj h).2
end Go.Proofs.Ytkeaobjcfkmjmaa
