/- The struct type Pump as data. -/
import Derived.Test.YtmnbbnboaokgjaaBase
namespace Go.Proofs.Ytmnbbnboaokgjaa
open Go.RowKit
structure Pump where
  Rate : Int
  Cost : Int
  Start : Int
  deriving DecidableEq
def Pump.cs (p : Pump) : List Value := [.int .i64 p.Rate, .int .i64 p.Cost, .int .i64 p.Start]
abbrev Pump.val (p : Pump) : Value := .agg #[.int .i64 p.Rate, .int .i64 p.Cost, .int .i64 p.Start]
theorem Pump.cs_len (p : Pump) : p.cs.length = 3 := rfl
theorem Sl.Pump {w : World} {A : Option Addr} {n : Nat} {l : List Pump} (h : Sl Pump.cs 3 w A n l) {i : Nat} (hi : i < n) : ∃ b o p, A = some ⟨b, o, none⟩ ∧ l[i]? = some p ∧
    (∀ W, Bl w W → W.cell? ⟨b, o + i * 3, none⟩ = some (.int .i64 p.Rate)) ∧ (∀ W, Bl w W → W.cell? ⟨b, o + i * 3 + 1, none⟩ = some (.int .i64 p.Cost)) ∧ (∀ W, Bl w W → W.cell? ⟨b, o + i * 3 + 2, none⟩ = some (.int .i64 p.Start)) := by
  obtain ⟨b, o, x, e, hx, hc⟩ := h.at_ hi
  exact ⟨b, o, x, e, hx, Bl.all (hc 0 _ rfl), Bl.all (hc 1 _ rfl), Bl.all (hc 2 _ rfl)⟩
end Go.Proofs.Ytmnbbnboaokgjaa
