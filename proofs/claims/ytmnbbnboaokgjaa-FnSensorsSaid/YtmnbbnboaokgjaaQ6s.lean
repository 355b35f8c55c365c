/- Plain laws on sensors: the median, who agrees. No program in sight. -/
import Derived.Test.YtmnbbnboaokgjaaQs
import Derived.Test.YtmnbbnboaokgjaaInts
namespace Go.Proofs.Ytmnbbnboaokgjaa
open Go.RowKit
def ltZ (x y : Int) : Bool := decide (x < y)
def gauge (x : Int) : Bool := inB x 0 2000
def tripOk (l : List Int) : Bool := decide (l.length = 3) && l.all gauge
def medZ (a b c : Int) : Int := max (min a b) (min (max a b) c)
theorem med_sort (a b c : Int) : (sortG ltZ [a, b, c] 3)[1]? = some (medZ a b c) := by
  have e1 : sortG ltZ [a, b, c] 1 = [a] := by simp [sortG, insG, posG]
  have e2 : sortG ltZ [a, b, c] 2 = if b < a then [b, a] else [a, b] := by
    rw [sortG_one (k := 1) (x := b) rfl, e1]
    by_cases h : b < a
    · simp [insG, posG, ltZ, h]
    · simp [insG, posG, ltZ, h]
  rw [sortG_one (k := 2) (x := c) rfl, e2]
  unfold medZ
  by_cases h : b < a
  · rw [if_pos h]
    by_cases h1 : c < a
    · by_cases h2 : c < b
      · simp [insG, posG, ltZ, h1, h2]; omega
      · simp [insG, posG, ltZ, h1, h2]; omega
    · simp [insG, posG, ltZ, h1]; omega
  · rw [if_neg h]
    by_cases h1 : c < b
    · by_cases h2 : c < a
      · simp [insG, posG, ltZ, h1, h2]; omega
      · simp [insG, posG, ltZ, h1, h2]; omega
    · simp [insG, posG, ltZ, h1]; omega
theorem trip_parts {l : List Int} (h : tripOk l = true) : ∃ a b c, l = [a, b, c] ∧ (0 ≤ a ∧ a ≤ 2000) ∧ (0 ≤ b ∧ b ≤ 2000) ∧ (0 ≤ c ∧ c ≤ 2000) := by
  simp only [tripOk, Bool.and_eq_true, decide_eq_true_eq, List.all_eq_true] at h
  obtain ⟨h1, h2⟩ := h
  match l, h1 with
  | [a, b, c], _ => exact ⟨a, b, c, rfl, inB_iff.1 (h2 a (by simp)), inB_iff.1 (h2 b (by simp)), inB_iff.1 (h2 c (by simp))⟩
def medL (l : List Int) : Int := medZ ((l[0]?).getD 0) ((l[1]?).getD 0) ((l[2]?).getD 0)
theorem med_rng {a b c : Int} (ha : 0 ≤ a ∧ a ≤ 2000) (hb : 0 ≤ b ∧ b ≤ 2000) (hc : 0 ≤ c ∧ c ≤ 2000) : 0 ≤ medZ a b c ∧ medZ a b c ≤ 2000 := by unfold medZ; omega
def medianR (l : List Int) : Int × Bool := if tripOk l = true then (medL l, true) else (0, false)
def farZ (a b : Int) : Int := max (a - b) (b - a)
/-- The indices of the sensors that agree, among the first k. -/
def agreeK (l : List Int) (m : Int) : Nat → List Int
  | 0 => []
  | k + 1 => match l[k]? with
    | some x => if farZ x (medL l) ≤ m then agreeK l m k ++ [(k : Int)] else agreeK l m k
    | none => agreeK l m k
theorem agreeK_one {l : List Int} {m : Int} {k : Nat} {x : Int} (h : l[k]? = some x) : agreeK l m (k + 1) = if farZ x (medL l) ≤ m then agreeK l m k ++ [(k : Int)] else agreeK l m k := by simp [agreeK, h]
theorem agreeK_len (l : List Int) (m : Int) : ∀ k, (agreeK l m k).length ≤ k := by
  intro k
  induction k with
  | zero => simp [agreeK]
  | succ k ih =>
    simp only [agreeK]
    split
    · split
      · simp; omega
      · omega
    · omega
theorem agreeK_rng (l : List Int) (m : Int) : ∀ k, ∀ x ∈ agreeK l m k, 0 ≤ x ∧ x < k := by
  intro k
  induction k with
  | zero => intro x h; simp [agreeK] at h
  | succ k ih =>
    intro x h
    simp only [agreeK] at h
    split at h
    · split at h
      · rcases List.mem_append.1 h with h | h
        · have := ih x h; omega
        · simp at h; omega
      · have := ih x h; omega
    · have := ih x h; omega
def agreeR (l : List Int) (m : Int) : List Int × Bool := if tripOk l = true ∧ gauge m = true then (agreeK l m 3, true) else ([], false)
/-- The sum of the readings of those that agree, among the first k of them. -/
def sumAg (l : List Int) (g : List Int) : Nat → Int
  | 0 => 0
  | k + 1 => match g[k]? with
    | some x => sumAg l g k + (l[x.toNat]?).getD 0
    | none => sumAg l g k
theorem sumAg_one {l g : List Int} {k i : Nat} {x : Int} (h : g[k]? = some (i : Int)) (hx : l[i]? = some x) : sumAg l g (k + 1) = sumAg l g k + x := by simp [sumAg, h, hx]
def votedR (l : List Int) (m : Int) : Int × Bool := if (tripOk l = true ∧ gauge m = true) ∧ 2 ≤ (agreeK l m 3).length then (sumAg l (agreeK l m 3) (agreeK l m 3).length / ((agreeK l m 3).length : Nat), true) else (0, false)
theorem sumAg_rng {l : List Int} (hg : ∀ x ∈ l, 0 ≤ x ∧ x ≤ 2000) (g : List Int) : ∀ k, 0 ≤ sumAg l g k ∧ sumAg l g k ≤ 2000 * (k : Int) := by
  intro k
  induction k with
  | zero => simp [sumAg]
  | succ k ih =>
    simp only [sumAg]
    split
    · rename_i x _
      cases h : l[x.toNat]? with
      | none => simp; omega
      | some y =>
        have := hg y (List.mem_of_getElem? h)
        simp; omega
    · omega
end Go.Proofs.Ytmnbbnboaokgjaa
