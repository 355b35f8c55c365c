/- Plain laws on the fewest faults. No program in sight. -/
import Derived.Test.YtmnbbnboaokgjaaQ6
namespace Go.Proofs.Ytmnbbnboaokgjaa
open Go.RowKit
/-- The most bounds that have the lower end of one of the first k. -/
def coverK (l : List Bound) : Nat → Int
  | 0 => 0
  | k + 1 => match l[k]? with
    | some b => max (coverK l k) (cnt l b.Low)
    | none => coverK l k
theorem coverK_one {l : List Bound} {k : Nat} {b : Bound} (h : l[k]? = some b) : coverK l (k + 1) = max (coverK l k) (cnt l b.Low) := by simp [coverK, h]
theorem cover_rng (l : List Bound) : ∀ k, 0 ≤ coverK l k ∧ coverK l k ≤ l.length := by
  intro k
  induction k with
  | zero => simp [coverK]
  | succ k ih =>
    simp only [coverK]
    split
    · rename_i b _
      have := cnt_rng l b.Low
      omega
    · exact ih
theorem cover_ge {l : List Bound} {i : Nat} {b : Bound} (h : l[i]? = some b) : ∀ k, i < k → cnt l b.Low ≤ coverK l k := by
  intro k
  induction k with
  | zero => intro h; omega
  | succ k ih =>
    intro hk
    by_cases e : i = k
    · subst e; rw [coverK_one h]; omega
    · have := ih (by omega)
      simp only [coverK]
      split
      · omega
      · exact this
theorem cover_is (l : List Bound) : ∀ k, coverK l k = 0 ∨ ∃ b ∈ l, coverK l k = cnt l b.Low := by
  intro k
  induction k with
  | zero => exact .inl rfl
  | succ k ih =>
    simp only [coverK]
    split
    · rename_i b hb
      have hm := List.mem_of_getElem? hb
      by_cases h : coverK l k ≤ cnt l b.Low
      · exact .inr ⟨b, hm, by omega⟩
      · rcases ih with h0 | ⟨c, hc, e⟩
        · have := cnt_rng l b.Low; omega
        · exact .inr ⟨c, hc, by omega⟩
    · exact ih
theorem cnt_own {l : List Bound} {b : Bound} (hb : b ∈ l) (h : b.Low ≤ b.High) : 1 ≤ cnt l b.Low := by
  have : 0 < l.countP (hasLv b.Low) := List.countP_pos_iff.2 ⟨b, hb, inB_iff.2 ⟨Int.le_refl _, h⟩⟩
  unfold cnt; omega
theorem idx_of {l : List Bound} {b : Bound} (hb : b ∈ l) : ∃ i : Nat, i < l.length ∧ l[i]? = some b := by
  obtain ⟨i, hi, e⟩ := List.getElem_of_mem hb
  exact ⟨i, hi, by rw [List.getElem?_eq_getElem hi, e]⟩
theorem cover_pos {l : List Bound} (h : bndsOk l = true) : 1 ≤ coverK l l.length := by
  have hl := bnds_len h
  have hx : l[0]? = some (l[0]'(by omega)) := List.getElem?_eq_getElem (by omega)
  have h1 := cnt_own (List.mem_of_getElem? hx) (bnds_at h (List.mem_of_getElem? hx)).2.1
  have h2 := cover_ge hx l.length (by omega)
  omega
theorem found_is {l : List Bound} (h : bndsOk l = true) {t : Int} (ht : 1 ≤ t) : (trustT l t).found = decide (t ≤ coverK l l.length) := by
  obtain ⟨a1, a2⟩ := tr_char l t 2001
  unfold trustT
  cases hf : (trK l t 2001).found
  · obtain ⟨_, _, d⟩ := a1 hf
    symm
    rw [decide_eq_false_iff_not]
    intro hc
    rcases cover_is l l.length with h0 | ⟨b, hb, e⟩
    · omega
    · have hr := bnds_at h hb
      have := d b.Low.toNat (by omega)
      rw [show ((b.Low.toNat : Nat) : Int) = b.Low by omega] at this
      omega
  · obtain ⟨d1, d2, d3, d4, d5, d6⟩ := a2 hf
    symm
    rw [decide_eq_true_iff]
    obtain ⟨b, hb, _, hc⟩ := to_low (l := l) (x := (trK l t 2001).low) (by omega)
    obtain ⟨i, hi, hib⟩ := idx_of hb
    have := cover_ge hib l.length hi
    omega
def fewR (l : List Bound) : Int × Bool := if bndsOk l = true then ((l.length : Int) - coverK l l.length, true) else (0, false)
theorem few_yes {l : List Bound} (h : bndsOk l = true) : fewR l = ((l.length : Int) - coverK l l.length, true) := if_pos h
theorem few_no {l : List Bound} (h : bndsOk l = false) : fewR l = (0, false) := if_neg (by simp [h])
theorem few_rng (l : List Bound) : 0 ≤ (fewR l).1 ∧ (fewR l).1 ≤ 8 := by
  cases hb : bndsOk l
  · rw [few_no hb]; simp
  · rw [few_yes hb]
    have hl := bnds_len hb
    have h1 := cover_pos hb
    have h2 := (cover_rng l l.length).2
    simp only
    omega
theorem few_facts {l : List Bound} (h : (fewR l).2 = true) : (trustR l (fewR l).1).2 = true ∧ (trustR l ((fewR l).1 - 1)).2 = false := by
  cases hb : bndsOk l
  · rw [few_no hb] at h; cases h
  · rw [few_yes hb]
    have hl := bnds_len hb
    have h1 := cover_pos hb
    have h2 := (cover_rng l l.length).2
    constructor
    · rw [trustR, if_pos ⟨hb, inB_iff.2 ⟨by simp only; omega, by simp only; omega⟩⟩]
      simp only
      rw [found_is hb (by omega)]
      simp; omega
    · rw [trustR]
      split
      · simp only
        rw [found_is hb (by omega)]
        simp; omega
      · rfl
theorem trust_mono {l : List Bound} {f : Int} (h1 : (trustR l f).2 = true) (h2 : (trustR l (f + 1)).2 = true) : (trustR l (f + 1)).1.Low ≤ (trustR l f).1.Low ∧ (trustR l f).1.High ≤ (trustR l (f + 1)).1.High := by
  unfold trustR at h1 h2 ⊢
  split at h1
  · rename_i g1
    split at h2
    · rename_i g2
      rw [if_pos g1, if_pos g2]
      simp only at h1 h2 ⊢
      obtain ⟨d1, d2, d3, d4, d5, d6⟩ := (tr_char l ((l.length : Int) - f) 2001).2 h1
      obtain ⟨e1, e2, e3, e4, e5, e6⟩ := (tr_char l ((l.length : Int) - (f + 1)) 2001).2 h2
      unfold trustT at *
      have k1 := e6 (trK l ((l.length : Int) - f) 2001).low.toNat (by omega) (by rw [show (((trK l ((l.length : Int) - f) 2001).low.toNat : Nat) : Int) = (trK l ((l.length : Int) - f) 2001).low by omega]; omega)
      have k2 := e6 (trK l ((l.length : Int) - f) 2001).high.toNat (by omega) (by rw [show (((trK l ((l.length : Int) - f) 2001).high.toNat : Nat) : Int) = (trK l ((l.length : Int) - f) 2001).high by omega]; omega)
      omega
    · cases h2
  · cases h1
end Go.Proofs.Ytmnbbnboaokgjaa
