/- The struct type Basin as data. -/
import Derived.Test.YtpgghmhbkgkkiaaBase
namespace Go.Proofs.Ytpgghmhbkgkkiaa
open Go.RowKit
structure Basin where
  Volume : Int
  Least : Int
  Most : Int
  deriving DecidableEq
def Basin.cs (p : Basin) : List Value := [.int .i64 p.Volume, .int .i64 p.Least, .int .i64 p.Most]
abbrev Basin.val (p : Basin) : Value := .agg #[.int .i64 p.Volume, .int .i64 p.Least, .int .i64 p.Most]
theorem Basin.cs_len (p : Basin) : p.cs.length = 3 := rfl
theorem Sl.Basin {w : World} {A : Option Addr} {n : Nat} {l : List Basin} (h : Sl Basin.cs 3 w A n l) {i : Nat} (hi : i < n) : ∃ b o p, A = some ⟨b, o, none⟩ ∧ l[i]? = some p ∧
    (∀ W, Bl w W → W.cell? ⟨b, o + i * 3, none⟩ = some (.int .i64 p.Volume)) ∧ (∀ W, Bl w W → W.cell? ⟨b, o + i * 3 + 1, none⟩ = some (.int .i64 p.Least)) ∧ (∀ W, Bl w W → W.cell? ⟨b, o + i * 3 + 2, none⟩ = some (.int .i64 p.Most)) := by
  obtain ⟨b, o, x, e, hx, hc⟩ := h.at_ hi
  exact ⟨b, o, x, e, hx, Bl.all (hc 0 _ rfl), Bl.all (hc 1 _ rfl), Bl.all (hc 2 _ rfl)⟩
end Go.Proofs.Ytpgghmhbkgkkiaa
