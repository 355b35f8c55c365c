/- The struct type Arrival as data. -/
import Derived.Test.YtnckpionabokeaaBase
namespace Go.Proofs.Ytnckpionabokeaa
open Go.RowKit
structure Arrival where
  Id : Int
  Up : Bool
  Minute : Int
  Weight : Int
  deriving DecidableEq
def Arrival.cs (p : Arrival) : List Value := [.int .i64 p.Id, .bool p.Up, .int .i64 p.Minute, .int .i64 p.Weight]
abbrev Arrival.val (p : Arrival) : Value := .agg #[.int .i64 p.Id, .bool p.Up, .int .i64 p.Minute, .int .i64 p.Weight]
theorem Arrival.cs_len (p : Arrival) : p.cs.length = 4 := rfl
theorem Sl.Arrival {w : World} {A : Option Addr} {n : Nat} {l : List Arrival} (h : Sl Arrival.cs 4 w A n l) {i : Nat} (hi : i < n) : ∃ b o p, A = some ⟨b, o, none⟩ ∧ l[i]? = some p ∧
    (∀ W, Bl w W → W.cell? ⟨b, o + i * 4, none⟩ = some (.int .i64 p.Id)) ∧ (∀ W, Bl w W → W.cell? ⟨b, o + i * 4 + 1, none⟩ = some (.bool p.Up)) ∧ (∀ W, Bl w W → W.cell? ⟨b, o + i * 4 + 2, none⟩ = some (.int .i64 p.Minute)) ∧ (∀ W, Bl w W → W.cell? ⟨b, o + i * 4 + 3, none⟩ = some (.int .i64 p.Weight)) := by
  obtain ⟨b, o, x, e, hx, hc⟩ := h.at_ hi
  exact ⟨b, o, x, e, hx, Bl.all (hc 0 _ rfl), Bl.all (hc 1 _ rfl), Bl.all (hc 2 _ rfl), Bl.all (hc 3 _ rfl)⟩
end Go.Proofs.Ytnckpionabokeaa
