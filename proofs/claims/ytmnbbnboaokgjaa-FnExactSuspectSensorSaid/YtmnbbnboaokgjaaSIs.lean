/- A slice of slices of integers that came in. -/
import Derived.Test.YtmnbbnboaokgjaaLift
import Derived.Test.YtmnbbnboaokgjaaTg
namespace Go.Proofs.Ytmnbbnboaokgjaa
open Go.ChangeShapes Go.WideShapes Go.ChangeAt Go.RowKit Go.Deep Go.Joins
theorem slice_form2 {H : Type} {enc : TypeId × Value → H} {P : Program} {w : World} {base : Nat} {spare : Nat → Bool} {held : Bool} {t e : TypeId} {n : Nat} {v : Value} {y : DataW H × List MemPlace} (ht : P.underlying t = some (.slice e)) (h : DataW.trod enc P w base spare held n t [v] = some y) : ∃ A m c, v = .slice A m c ∧ m ≤ c ∧ DataW.Trod enc P w base spare held t (.slice A m c) y.1 y.2 := by
  rcases open_slice ht h with ⟨h0, _⟩ | ⟨a, len, cap, m, q, D, Pl, h0, _, hl, _⟩
  · simp at h0
    subst h0
    exact ⟨_, _, _, rfl, Nat.le_refl _, n, by simpa [Value.cells] using h⟩
  · simp at h0
    subst h0
    exact ⟨_, _, _, rfl, hl, n, by simpa [Value.cells] using h⟩
theorem sl_of_intss {H : Type} {enc : TypeId × Value → H} {P : Program} {w : World} {base : Nat} {spare : Nat → Bool} {held : Bool} {t e ei : TypeId} {A : Option Addr} {n c : Nat} {d : DataW H} {p : List MemPlace}
    (ht : P.underlying t = some (.slice e)) (he : P.underlying e = some (.slice ei)) (hi : P.underlying ei = some (.int .i64)) (hC : P.cellsOf e = 1) (hci : P.cellsOf ei = 1)
    (h : DataW.Trod enc P w base spare held t (.slice A n c) d p) : ∃ l : List Rw × List (List Int), Tb w A n l.1 l.2 := by
  obtain ⟨fuel, hf⟩ := h
  rcases open_slice ht hf with ⟨hcs, _⟩ | ⟨a, len, cap, m, q, D, Pl, hcs, _, hl, hm, hmm, _, hx⟩
  · simp [Value.cells] at hcs
    obtain ⟨rfl, rfl, rfl⟩ := hcs
    exact ⟨([], []), Sl.nil_, rfl, fun i r l e1 => by simp at e1⟩
  · simp [Value.cells] at hcs
    obtain ⟨rfl, rfl, rfl⟩ := hcs
    have hle := len_le_m hl hmm
    have key : ∀ i, ∃ p : Rw × List Int, i < n → w.cell? (a.add i) = some (.slice p.1.a p.1.n p.1.c) ∧ Sl ci 1 w p.1.a p.1.n p.2 ∧ p.1.n ≤ p.1.c := by
      intro i
      by_cases hi' : i < m
      · obtain ⟨cs', hc, ht'⟩ := hx i hi'
        rw [hC] at hc
        obtain ⟨_, hcl, hat⟩ := World.cells?_some hc
        rw [Nat.mul_one] at hat
        have h1 : cs' = [cs'[0]'(by omega)] := by
          match cs', hcl with
          | [x], _ => rfl
        rw [h1] at ht'
        obtain ⟨B, k, f, hv, hkf, hT⟩ := slice_form2 he ht'
        obtain ⟨l, hs⟩ := sl_of_ints he hi hci hT
        refine ⟨(⟨B, k, f⟩, l), fun _ => ⟨?_, hs, hkf⟩⟩
        have h2 := hat 0 (by omega)
        rw [List.getElem?_eq_getElem (by omega), hv] at h2
        have e0 : (a.add i).add 0 = a.add i := by simp [Addr.add]
        rwa [e0] at h2
      · exact ⟨(⟨none, 0, 0⟩, []), fun h => absurd h (by omega)⟩
    obtain ⟨g, hg⟩ := Classical.axiomOfChoice key
    refine ⟨((List.range n).map fun i => (g i).1, (List.range n).map fun i => (g i).2), Sl.of_fun (fun _ => by simp [crw]) (fun i => (g i).1) (by unfold maxLen at hm; omega) (fun i hi j u hu => ?_), by simp, fun i r l e1 e2 => ?_⟩
    · match j, hu with
      | 0, hu => simp [crw] at hu; subst hu; rw [Nat.mul_one]; exact (hg i hi).1
      | j + 1, hu => simp [crw] at hu
    · have hin : i < n := by have := (List.getElem?_eq_some_iff.1 e1).1; simpa using this
      simp [hin] at e1 e2
      subst e1 e2
      exact (hg i hin).2
end Go.Proofs.Ytmnbbnboaokgjaa
