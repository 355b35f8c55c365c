/- Plain laws on the order that no exchange of neighbors makes better. No program in sight. -/
import Derived.Test.YtcmlphikdgfilaaQ9b
namespace Go.Proofs.Ytcmlphikdgfilaa
open Go.RowKit
/-- The best exchange among the first k places: its place and its gain. -/
def bestK (l : List Arrival) (high : Bool) (mi : Int) (o : List Int) : Nat → Nat × Int
  | 0 => (0, 0)
  | k + 1 => if (gainR l high mi o k).2 = true ∧ (bestK l high mi o k).2 < (gainR l high mi o k).1 then (k, (gainR l high mi o k).1) else bestK l high mi o k
section
variable {l : List Arrival} {high : Bool} {mi : Int} {o : List Int}
theorem bestK_yes {k : Nat} (h : (gainR l high mi o k).2 = true) (h2 : (bestK l high mi o k).2 < (gainR l high mi o k).1) : bestK l high mi o (k + 1) = (k, (gainR l high mi o k).1) := by rw [bestK, if_pos ⟨h, h2⟩]
theorem bestK_bad {k : Nat} (h : (gainR l high mi o k).2 = false) : bestK l high mi o (k + 1) = bestK l high mi o k := by rw [bestK, if_neg (fun e => by rw [h] at e; exact absurd e.1 (by simp))]
theorem bestK_less {k : Nat} (h : ¬ (bestK l high mi o k).2 < (gainR l high mi o k).1) : bestK l high mi o (k + 1) = bestK l high mi o k := by rw [bestK, if_neg (fun e => h e.2)]
theorem bestK_of (k : Nat) : (bestK l high mi o k).1 ≤ k ∧ 0 ≤ (bestK l high mi o k).2 ∧ ((bestK l high mi o k).2 = 0 ∨ (gainR l high mi o (bestK l high mi o k).1 = ((bestK l high mi o k).2, true) ∧ (bestK l high mi o k).1 < k)) := by
  induction k with
  | zero => exact ⟨Nat.le_refl _, Int.le_refl _, .inl rfl⟩
  | succ k ih =>
    by_cases h : (gainR l high mi o k).2 = true ∧ (bestK l high mi o k).2 < (gainR l high mi o k).1
    · rw [bestK_yes h.1 h.2]
      exact ⟨by simp, by simp; omega, .inr ⟨by show gainR l high mi o k = _; rw [← h.1], by simp⟩⟩
    · have e : bestK l high mi o (k + 1) = bestK l high mi o k := by rw [bestK, if_neg h]
      rw [e]
      obtain ⟨h1, h2, h3⟩ := ih
      refine ⟨by omega, h2, ?_⟩
      rcases h3 with h3 | h3
      · exact .inl h3
      · exact .inr ⟨h3.1, by omega⟩
/-- A gain is the gain of an order. -/
theorem gain_ord {k : Nat} (h : (gainR l high mi o k).2 = true) : implOrd l (swapL o k) = true ∧ (gainR l high mi o k).1 = delayZ l high mi o - delayZ l high mi (swapL o k) := by
  unfold gainR at h ⊢
  by_cases h2 : implOrd l (swapL o k) = true
  · rw [if_pos h2]; exact ⟨h2, rfl⟩
  · rw [if_neg h2] at h; simp at h
def scanL (l : List Arrival) (high : Bool) (mi : Int) (o : List Int) : Nat × Int := bestK l high mi o (o.length - 1)
def potO (l : List Arrival) (high : Bool) (mi : Int) (o : List Int) : Nat := (delayZ l high mi o + 1080000).toNat
theorem scan_go (ho : implOrd l o = true) (m0 : 1 ≤ mi) (m1 : mi ≤ 60) (h : ¬ (scanL l high mi o).2 = 0) : implOrd l (swapL o (scanL l high mi o).1) = true ∧ potO l high mi (swapL o (scanL l high mi o).1) < potO l high mi o ∧ (scanL l high mi o).1 + 1 < o.length := by
  obtain ⟨h1, h2, h3⟩ := bestK_of (l := l) (high := high) (mi := mi) (o := o) (o.length - 1)
  have h3 := h3.resolve_left h
  obtain ⟨h4, h5⟩ := h3
  have h6 := gain_ord (l := l) (high := high) (mi := mi) (o := o) (k := (scanL l high mi o).1) (by show (gainR l high mi o (bestK l high mi o (o.length - 1)).1).2 = true; rw [h4])
  have h7 : (gainR l high mi o (scanL l high mi o).1).1 = (scanL l high mi o).2 := by show (gainR l high mi o (bestK l high mi o (o.length - 1)).1).1 = _; rw [h4]; rfl
  have hb := delay_bd (high := high) h6.1 m0 m1
  have hs : (bestK l high mi o (o.length - 1)) = scanL l high mi o := rfl
  rw [hs] at h1 h2 h5
  refine ⟨h6.1, ?_, by omega⟩
  have := h6.2
  unfold potO
  omega
def locF (l : List Arrival) (high : Bool) (mi : Int) : Nat → List Int → List Int
  | 0, o => o
  | f + 1, o => if (scanL l high mi o).2 = 0 then o else locF l high mi f (swapL o (scanL l high mi o).1)
theorem locF_same (m0 : 1 ≤ mi) (m1 : mi ≤ 60) : ∀ (f f' : Nat) (o : List Int), implOrd l o = true → potO l high mi o < f → potO l high mi o < f' → locF l high mi f o = locF l high mi f' o := by
  intro f
  induction f with
  | zero => intro f' o _ h; omega
  | succ f ih =>
    intro f' o ho h1 h2
    match f', h2 with
    | f' + 1, h2 =>
      by_cases hz : (scanL l high mi o).2 = 0
      · rw [locF, locF, if_pos hz, if_pos hz]
      · rw [locF, locF, if_neg hz, if_neg hz]
        obtain ⟨g1, g2, _⟩ := scan_go ho m0 m1 hz
        exact ih f' _ g1 (by omega) (by omega)
def locO (l : List Arrival) (high : Bool) (mi : Int) (o : List Int) : List Int := locF l high mi (potO l high mi o + 1) o
theorem loc_end (h : (scanL l high mi o).2 = 0) : locO l high mi o = o := by rw [locO, locF, if_pos h]
theorem loc_go (ho : implOrd l o = true) (m0 : 1 ≤ mi) (m1 : mi ≤ 60) (h : ¬ (scanL l high mi o).2 = 0) : locO l high mi o = locO l high mi (swapL o (scanL l high mi o).1) := by
  obtain ⟨g1, g2, _⟩ := scan_go ho m0 m1 h
  rw [locO, locF, if_neg h]
  exact locF_same m0 m1 _ _ _ g1 g2 (Nat.lt_succ_self _)
end
def localR (l : List Arrival) (high : Bool) (mi : Int) : (List Int × Int) × Bool := if arrOk l = true ∧ inB mi 1 60 = true then ((locO l high mi (fcK l l.length), delayZ l high mi (locO l high mi (fcK l l.length))), true) else (([], 0), false)
/-- The order that the scan of the first k places leaves. -/
def pickO (l : List Arrival) (high : Bool) (mi : Int) (o : List Int) (k : Nat) : List Int := if (bestK l high mi o k).2 = 0 then o else swapL o (bestK l high mi o k).1
theorem pickO_yes {l : List Arrival} {high : Bool} {mi : Int} {o : List Int} {k : Nat} (h : (gainR l high mi o k).2 = true) (h2 : (bestK l high mi o k).2 < (gainR l high mi o k).1) : pickO l high mi o (k + 1) = swapL o k := by
  have := (bestK_of (l := l) (high := high) (mi := mi) (o := o) k).2.1
  rw [pickO, bestK_yes h h2]
  exact if_neg (by simp only; omega)
theorem pickO_keep {l : List Arrival} {high : Bool} {mi : Int} {o : List Int} {k : Nat} (h : bestK l high mi o (k + 1) = bestK l high mi o k) : pickO l high mi o (k + 1) = pickO l high mi o k := by
  rw [pickO, pickO, h]
theorem pickO_end {l : List Arrival} {high : Bool} {mi : Int} {o : List Int} {k : Nat} (h : ¬ (bestK l high mi o k).2 = 0) : pickO l high mi o k = swapL o (bestK l high mi o k).1 := if_neg h
/-- A row of numbers as a list, out of the cells. -/
def rowW (w : World) (v : Value) : List Int := match v with
  | .slice (some ⟨g, o, _⟩) n _ => (List.range n).map fun i => intOf ((w.cell? ⟨g, o + i, none⟩).getD undef)
  | _ => []
theorem rowW_eq {w : World} {C : Option Addr} {n c : Nat} {r : List Int} (h : Sl ci 1 w C n r) : rowW w (.slice C n c) = r := by
  rcases Nat.eq_zero_or_pos n with h0 | h0
  · subst h0
    have : r = [] := List.eq_nil_of_length_eq_zero h.1
    subst this
    unfold rowW
    cases C <;> simp
  · obtain ⟨b, o, rfl, hc⟩ := h.2.2 h0
    simp only [rowW]
    apply List.ext_getElem?
    intro i
    by_cases hi : i < n
    · have hx : r[i]? = some (r[i]'(by rw [h.1]; exact hi)) := List.getElem?_eq_getElem (by rw [h.1]; exact hi)
      generalize r[i]'(by rw [h.1]; exact hi) = x at hx
      have c0 := hc i x hx 0 (.int .i64 x) rfl
      rw [Nat.add_zero, Nat.mul_one] at c0
      simp [hi, hx, c0, intOf]
    · rw [List.getElem?_eq_none (by simp; omega), List.getElem?_eq_none (by simp [h.1]; omega)]
end Go.Proofs.Ytcmlphikdgfilaa
