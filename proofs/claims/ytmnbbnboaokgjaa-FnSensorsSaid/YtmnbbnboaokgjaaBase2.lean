/- Lists whose elements are checked one by one. -/
import Derived.Test.YtmnbbnboaokgjaaBase
namespace Go.Proofs.Ytmnbbnboaokgjaa
/-- The first k elements of l pass the test P, which knows their numbers. -/
def upTo {α : Type} (P : Nat → α → Bool) (l : List α) : Nat → Bool
  | 0 => true
  | k + 1 => upTo P l k && (match l[k]? with | some c => P k c | none => true)
section
variable {α : Type} {P : Nat → α → Bool} {l : List α}
theorem upTo_one {k : Nat} {c : α} (h : l[k]? = some c) : upTo P l (k + 1) = (upTo P l k && P k c) := by simp [upTo, h]
theorem upTo_mono {i k : Nat} (hik : i ≤ k) (h : upTo P l k = true) : upTo P l i = true := by
  induction k with
  | zero => have : i = 0 := by omega
            subst this; exact h
  | succ k ih =>
    by_cases e : i = k + 1
    · subst e; exact h
    · refine ih (by omega) ?_
      simp only [upTo, Bool.and_eq_true] at h
      exact h.1
theorem upTo_at {i k : Nat} {p : α} (h : upTo P l k = true) (hi : i < k) (hp : l[i]? = some p) : P i p = true := by
  have := upTo_mono (show i + 1 ≤ k by omega) h
  rw [upTo_one hp, Bool.and_eq_true] at this
  exact this.2
theorem upTo_not {k : Nat} {c : α} (h : l[k]? = some c) (hc : P k c = false) : upTo P l l.length = false := by
  have hk : k < l.length := (List.getElem?_eq_some_iff.1 h).1
  cases e : upTo P l l.length
  · rfl
  · have := upTo_at e hk h
    rw [hc] at this
    cases this
end
end Go.Proofs.Ytmnbbnboaokgjaa
