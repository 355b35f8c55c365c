/- Rows with one element that have just been laid. No program in sight. -/
import Derived.Test.YtkeaobjcfkmjmaaBase4
import Derived.Deep.RegionHeld3
namespace Go.Proofs.Ytkeaobjcfkmjmaa
open Go.RowKit
theorem slOneG {α : Type} (f : α → List Value) (k : Nat) (hf : ∀ x, (f x).length = k) (w : World) (e : TypeId) (y : α) (cs : Array Value) (hcs : cs = (f y).toArray) (H : Nat) (hH : w.heap.size = H) : Sl f k (w.alloc (.cells cs e)) (some ⟨H, 0, none⟩) 1 [y] := by
  subst hH hcs
  refine ⟨rfl, by decide, fun _ => ⟨_, 0, rfl, fun i x hi j u hu => ?_⟩⟩
  match i, hi with
  | 0, hi =>
    have := Option.some.inj hi
    subst this
    rw [Nat.zero_mul, Nat.zero_add, cell_of_row _ _ j _ e (0, 0) (heap_alloc_new w _)]
    simpa using hu
  | i + 1, hi => simp at hi
end Go.Proofs.Ytkeaobjcfkmjmaa
