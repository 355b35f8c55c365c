/- The struct type Cargo as data. -/
import Derived.Test.YtkeaobjcfkmjmaaBase
namespace Go.Proofs.Ytkeaobjcfkmjmaa
open Go.RowKit
structure Cargo where
  Id : Int
  Length : Int
  Cones : Int
  deriving DecidableEq
def Cargo.cs (p : Cargo) : List Value := [.int .i64 p.Id, .int .i64 p.Length, .int .i64 p.Cones]
abbrev Cargo.val (p : Cargo) : Value := .agg #[.int .i64 p.Id, .int .i64 p.Length, .int .i64 p.Cones]
theorem Cargo.cs_len (p : Cargo) : p.cs.length = 3 := rfl
theorem Sl.Cargo {w : World} {A : Option Addr} {n : Nat} {l : List Cargo} (h : Sl Cargo.cs 3 w A n l) {i : Nat} (hi : i < n) : ∃ b o p, A = some ⟨b, o, none⟩ ∧ l[i]? = some p ∧
    (∀ W, Bl w W → W.cell? ⟨b, o + i * 3, none⟩ = some (.int .i64 p.Id)) ∧ (∀ W, Bl w W → W.cell? ⟨b, o + i * 3 + 1, none⟩ = some (.int .i64 p.Length)) ∧ (∀ W, Bl w W → W.cell? ⟨b, o + i * 3 + 2, none⟩ = some (.int .i64 p.Cones)) := by
  obtain ⟨b, o, x, e, hx, hc⟩ := h.at_ hi
  exact ⟨b, o, x, e, hx, Bl.all (hc 0 _ rfl), Bl.all (hc 1 _ rfl), Bl.all (hc 2 _ rfl)⟩
end Go.Proofs.Ytkeaobjcfkmjmaa
