/- The contracts of the functions on lists of integers: is a number in a list. -/
import Derived.Test.YtkeaobjcfkmjmaaL1
import Derived.Test.YtkeaobjcfkmjmaaBase3
import Derived.Test.YtkeaobjcfkmjmaaHInt
namespace Go.Proofs.Ytkeaobjcfkmjmaa
open Go.RowKit
def hasB (l : List Int) (x : Int) : Bool := decide (x ∈ l)
theorem hasB_iff {l : List Int} {x : Int} : hasB l x = true ↔ x ∈ l := by simp [hasB]
theorem hasB_no {l : List Int} {x : Int} : hasB l x = false ↔ x ∉ l := by simp [hasB]
theorem has_more {l : List Int} {k : Nat} {x y : Int} (h : l[k]? = some y) (hk : hasB (l.take k) x = false) (hy : ¬ y = x) : hasB (l.take (k + 1)) x = false := by
  rw [hasB_no] at *
  rw [take_one h]
  simp only [List.mem_append, List.mem_singleton, not_or]
  exact ⟨hk, fun e => hy e.symm⟩
theorem has_at {l : List Int} {k : Nat} {x : Int} (h : l[k]? = some x) : hasB l x = true := hasB_iff.2 (List.mem_of_getElem? h)
end Go.Proofs.Ytkeaobjcfkmjmaa
