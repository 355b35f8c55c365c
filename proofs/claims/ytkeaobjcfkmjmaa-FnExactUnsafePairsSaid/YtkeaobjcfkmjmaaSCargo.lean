/- A slice of Cargo that came in. -/
import Derived.Test.YtkeaobjcfkmjmaaLift
import Derived.Test.YtkeaobjcfkmjmaaTCargo
namespace Go.Proofs.Ytkeaobjcfkmjmaa
open Go.ChangeShapes Go.WideShapes Go.ChangeAt Go.RowKit Go.Deep Go.Joins
theorem sl_of_Cargo {H : Type} {enc : TypeId × Value → H} {P : Program} {w : World} {base : Nat} {spare : Nat → Bool} {held : Bool} {t e ti : TypeId} {f0 f1 f2 : Field} {A : Option Addr} {n c : Nat} {d : DataW H} {p : List MemPlace}
    (ht : P.underlying t = some (.slice e)) (he : P.underlying e = some (.struct #[f0, f1, f2])) (hi : P.underlying ti = some (.int .i64)) (hts : f0.type = ti ∧ f1.type = ti ∧ f2.type = ti) (hone : oneCellFields P #[f0, f1, f2] = true) (hC : P.cellsOf e = 3)
    (h : DataW.Trod enc P w base spare held t (.slice A n c) d p) : ∃ l : List Cargo, Sl Cargo.cs 3 w A n l := by
  obtain ⟨fuel, hf⟩ := h
  rcases open_slice_fields ht he hone (by rw [hC]; rfl) hf with ⟨hcs, _⟩ | ⟨a, len, cap, m, D, Pl, hcs, _, hl, hm, hmm, _, hx⟩
  · simp [Value.cells] at hcs
    obtain ⟨rfl, rfl, rfl⟩ := hcs
    exact ⟨[], Sl.nil_⟩
  · simp [Value.cells] at hcs
    obtain ⟨rfl, rfl, rfl⟩ := hcs
    have hle := len_le_m hl hmm
    have key : ∀ i, ∃ p : Cargo, i < n → ∀ j u, p.cs[j]? = some u → w.cell? (a.add (i * 3 + j)) = some u := by
      intro i
      by_cases hi' : i < m
      · obtain ⟨ys, q, _, _, _, hfl⟩ := hx i hi'
        obtain ⟨ft0, ft1, ft2⟩ := hts
        obtain ⟨v0, z0, c0, _, t0⟩ := hfl 0 f0 rfl
        rw [ft0] at t0
        obtain ⟨a0, h0, _, _⟩ := DataW.trod_int hi t0
        simp at h0
        subst h0
        obtain ⟨v1, z1, c1, _, t1⟩ := hfl 1 f1 rfl
        rw [ft1] at t1
        obtain ⟨a1, h1, _, _⟩ := DataW.trod_int hi t1
        simp at h1
        subst h1
        obtain ⟨v2, z2, c2, _, t2⟩ := hfl 2 f2 rfl
        rw [ft2] at t2
        obtain ⟨a2, h2, _, _⟩ := DataW.trod_int hi t2
        simp at h2
        subst h2
        refine ⟨⟨a0, a1, a2⟩, fun _ j u hu => ?_⟩
        match j, hu with
        | 0, hu => simp [Cargo.cs] at hu; subst hu; exact c0
        | 1, hu => simp [Cargo.cs] at hu; subst hu; exact c1
        | 2, hu => simp [Cargo.cs] at hu; subst hu; exact c2
        | j + 3, hu => simp [Cargo.cs] at hu
      · exact ⟨⟨0, 0, 0⟩, fun h => absurd h (by omega)⟩
    obtain ⟨g, hg⟩ := Classical.axiomOfChoice key
    exact ⟨_, Sl.of_fun (fun _ => by simp [Cargo.cs]) g (by unfold maxLen at hm; omega) fun i hi => hg i hi⟩
end Go.Proofs.Ytkeaobjcfkmjmaa
