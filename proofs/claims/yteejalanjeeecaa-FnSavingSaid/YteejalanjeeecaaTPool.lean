/- The struct type Pool as data. -/
import Derived.Test.YteejalanjeeecaaBase
namespace Go.Proofs.Yteejalanjeeecaa
open Go.RowKit
structure Pool where
  Area : Int
  Floor : Int
  Water : Int
  deriving DecidableEq
def Pool.cs (p : Pool) : List Value := [.int .i64 p.Area, .int .i64 p.Floor, .int .i64 p.Water]
abbrev Pool.val (p : Pool) : Value := .agg #[.int .i64 p.Area, .int .i64 p.Floor, .int .i64 p.Water]
theorem Pool.cs_len (p : Pool) : p.cs.length = 3 := rfl
theorem Sl.Pool {w : World} {A : Option Addr} {n : Nat} {l : List Pool} (h : Sl Pool.cs 3 w A n l) {i : Nat} (hi : i < n) : ∃ b o p, A = some ⟨b, o, none⟩ ∧ l[i]? = some p ∧
    (∀ W, Bl w W → W.cell? ⟨b, o + i * 3, none⟩ = some (.int .i64 p.Area)) ∧ (∀ W, Bl w W → W.cell? ⟨b, o + i * 3 + 1, none⟩ = some (.int .i64 p.Floor)) ∧ (∀ W, Bl w W → W.cell? ⟨b, o + i * 3 + 2, none⟩ = some (.int .i64 p.Water)) := by
  obtain ⟨b, o, x, e, hx, hc⟩ := h.at_ hi
  exact ⟨b, o, x, e, hx, Bl.all (hc 0 _ rfl), Bl.all (hc 1 _ rfl), Bl.all (hc 2 _ rfl)⟩
end Go.Proofs.Yteejalanjeeecaa
