/- Rows of numbers that have just been laid. No program in sight. -/
import Derived.Test.YtpgghmhbkgkkiaaBase
namespace Go.Proofs.Ytpgghmhbkgkkiaa
open Go.RowKit
theorem le_top {n : Nat} (h : n ≤ 1000) : n ≤ topLen := by rw [topLen_eq]; omega
theorem sl_lit (w : World) (T : TypeId) (l : List Int) (hl : l.length ≤ topLen) : Sl ci 1 (w.alloc (.cells (l.map (Value.int .i64)).toArray T)) (some ⟨w.heap.size, 0, none⟩) l.length l := by
  refine ⟨rfl, hl, fun _ => ⟨_, 0, rfl, fun i x hi j u hu => ?_⟩⟩
  match j, hu with
  | 0, hu =>
    have := Option.some.inj hu
    subst this
    rw [Nat.mul_one, Nat.zero_add, Nat.add_zero, cell_of_row _ _ i _ T (0, 0) (heap_alloc_new w _)]
    simp [hi]
  | j + 1, hu => simp [ci] at hu
end Go.Proofs.Ytpgghmhbkgkkiaa
