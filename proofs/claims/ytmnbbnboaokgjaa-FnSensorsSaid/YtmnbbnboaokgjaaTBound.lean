/- The struct type Bound as data. -/
import Derived.Test.YtmnbbnboaokgjaaBase
namespace Go.Proofs.Ytmnbbnboaokgjaa
open Go.RowKit
structure Bound where
  Low : Int
  High : Int
  deriving DecidableEq
def Bound.cs (p : Bound) : List Value := [.int .i64 p.Low, .int .i64 p.High]
abbrev Bound.val (p : Bound) : Value := .agg #[.int .i64 p.Low, .int .i64 p.High]
theorem Bound.cs_len (p : Bound) : p.cs.length = 2 := rfl
theorem Sl.Bound {w : World} {A : Option Addr} {n : Nat} {l : List Bound} (h : Sl Bound.cs 2 w A n l) {i : Nat} (hi : i < n) : ∃ b o p, A = some ⟨b, o, none⟩ ∧ l[i]? = some p ∧
    (∀ W, Bl w W → W.cell? ⟨b, o + i * 2, none⟩ = some (.int .i64 p.Low)) ∧ (∀ W, Bl w W → W.cell? ⟨b, o + i * 2 + 1, none⟩ = some (.int .i64 p.High)) := by
  obtain ⟨b, o, x, e, hx, hc⟩ := h.at_ hi
  exact ⟨b, o, x, e, hx, Bl.all (hc 0 _ rfl), Bl.all (hc 1 _ rfl)⟩
end Go.Proofs.Ytmnbbnboaokgjaa
