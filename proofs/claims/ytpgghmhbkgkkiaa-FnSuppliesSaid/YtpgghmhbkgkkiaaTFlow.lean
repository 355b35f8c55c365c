/- The struct type Flow as data. -/
import Derived.Test.YtpgghmhbkgkkiaaBase
namespace Go.Proofs.Ytpgghmhbkgkkiaa
open Go.RowKit
structure Flow where
  From : Int
  To : Int
  Volume : Int
  deriving DecidableEq
def Flow.cs (p : Flow) : List Value := [.int .i64 p.From, .int .i64 p.To, .int .i64 p.Volume]
abbrev Flow.val (p : Flow) : Value := .agg #[.int .i64 p.From, .int .i64 p.To, .int .i64 p.Volume]
theorem Flow.cs_len (p : Flow) : p.cs.length = 3 := rfl
theorem Sl.Flow {w : World} {A : Option Addr} {n : Nat} {l : List Flow} (h : Sl Flow.cs 3 w A n l) {i : Nat} (hi : i < n) : ∃ b o p, A = some ⟨b, o, none⟩ ∧ l[i]? = some p ∧
    (∀ W, Bl w W → W.cell? ⟨b, o + i * 3, none⟩ = some (.int .i64 p.From)) ∧ (∀ W, Bl w W → W.cell? ⟨b, o + i * 3 + 1, none⟩ = some (.int .i64 p.To)) ∧ (∀ W, Bl w W → W.cell? ⟨b, o + i * 3 + 2, none⟩ = some (.int .i64 p.Volume)) := by
  obtain ⟨b, o, x, e, hx, hc⟩ := h.at_ hi
  exact ⟨b, o, x, e, hx, Bl.all (hc 0 _ rfl), Bl.all (hc 1 _ rfl), Bl.all (hc 2 _ rfl)⟩
end Go.Proofs.Ytpgghmhbkgkkiaa
