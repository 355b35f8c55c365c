/- Words for memory of which two blocks are written besides new ones: the variables that a closure captures. No program in sight. -/
import Derived.Test.YtkeaobjcfkmjmaaBase4
import Derived.OneCell
namespace Go.Proofs.Ytkeaobjcfkmjmaa
open Go.RowKit
/-- From w on only new memory and the blocks b1 and b2 have been written. -/
structure Bx (b1 b2 : Nat) (w w' : World) : Prop where
  os : w'.os = w.os
  tape : w'.tape = w.tape
  output : w'.output = w.output
  size : w.heap.size ≤ w'.heap.size
  block : ∀ k, k < w.heap.size → k ≠ b1 → k ≠ b2 → w'.heap[k]? = w.heap[k]?
section
variable {b1 b2 : Nat} {w w' a : World}
theorem Bx.refl (w : World) : Bx b1 b2 w w := ⟨rfl, rfl, rfl, Nat.le_refl _, fun _ _ _ _ => rfl⟩
theorem Bx.trans {a b c : World} (h : Bx b1 b2 a b) (k : Bx b1 b2 b c) : Bx b1 b2 a c :=
  ⟨k.os.trans h.os, k.tape.trans h.tape, k.output.trans h.output, Nat.le_trans h.size k.size, fun i hi n1 n2 => (k.block i (Nat.lt_of_lt_of_le hi h.size) n1 n2).trans (h.block i hi n1 n2)⟩
theorem Bx.of_bl (h : Bl w w') : Bx b1 b2 w w' := ⟨h.os, h.tape, h.output, h.size, fun k hk _ _ => h.block k hk⟩
theorem Bx.bl {b c : World} (h : Bx b1 b2 a b) (k : Bl b c) : Bx b1 b2 a c := h.trans (.of_bl k)
theorem Bx.drew (h : Bx b1 b2 a w) : Bx b1 b2 a w.drew := h.trans ⟨rfl, rfl, rfl, Nat.le_refl _, fun _ _ _ _ => rfl⟩
theorem Bx.alloc (h : Bx b1 b2 a w) (o : Obj) : Bx b1 b2 a (w.alloc o) := h.trans (.of_bl ((Bl.refl w).alloc o))
theorem Bx.put1 (h : Bx b1 b2 a w) (u : Value) : Bx b1 b2 a (w.setCell ⟨b1, 0, none⟩ u) :=
  h.trans ⟨rfl, rfl, rfl, by simp [World.setCell], fun k _ n1 _ => Below.heap_setCell _ _ _ _ n1⟩
theorem Bx.put2 (h : Bx b1 b2 a w) (u : Value) : Bx b1 b2 a (w.setCell ⟨b2, 0, none⟩ u) :=
  h.trans ⟨rfl, rfl, rfl, by simp [World.setCell], fun k _ _ n2 => Below.heap_setCell _ _ _ _ n2⟩
theorem Bx.le (h : Bx b1 b2 w w') : w.heap.size ≤ w'.heap.size := h.size
/-- Seen from a world that knows neither block. -/
theorem Bx.below {z : World} (hz : Bl z w) (h : Bx b1 b2 w w') (h1 : z.heap.size ≤ b1) (h2 : z.heap.size ≤ b2) : Bl z w' :=
  ⟨h.os.trans hz.os, h.tape.trans hz.tape, h.output.trans hz.output, Nat.le_trans hz.size h.size, fun k hk => by
    have := hz.size
    rw [h.block k (by omega) (by omega) (by omega)]
    exact hz.block k hk⟩
theorem Bx.cell (h : Bx b1 b2 w w') {p : Addr} {u : Value} (hc : w.cell? p = some u) (n1 : p.block ≠ b1) (n2 : p.block ≠ b2) : w'.cell? p = some u :=
  (World.cell?_of_block (h.block p.block (World.block_lt_of_cell? w p hc) n1 n2)).trans hc
theorem Bx.one (h : Bx b1 b2 w w') {k : Nat} {o : Obj} (hk : w.heap[k]? = some o) (n1 : k ≠ b1) (n2 : k ≠ b2) : w'.heap[k]? = some o :=
  (h.block k (Array.getElem?_eq_some_iff.1 hk).1 n1 n2).trans hk
theorem Bx.own (h : Bx b1 b2 w w') {B E k n : Nat} {v : Value} {xs : List Value} (ho : w.ownsRow B E k v n xs) (hn : ∀ g, v.ownBlock = some g → g ≠ b1 ∧ g ≠ b2) : w'.ownsRow B E k v n xs := by
  refine ⟨ho.1, ?_⟩
  rcases ho.2 with h0 | ⟨g, cap, cur, rfl, hb, hg, rest⟩
  · exact .inl h0
  · exact .inr ⟨g, cap, cur, rfl, hb, h.one hg (hn g rfl).1 (hn g rfl).2, rest⟩
theorem Bx.sl {α : Type} {f : α → List Value} {k n : Nat} {A : Option Addr} {l : List α} (h : Bx b1 b2 w w') (hs : Sl f k w A n l) (hn : ∀ b o s, A = some ⟨b, o, s⟩ → b ≠ b1 ∧ b ≠ b2) : Sl f k w' A n l :=
  ⟨hs.1, hs.2.1, fun h0 => let ⟨b, o, e, hc⟩ := hs.2.2 h0; ⟨b, o, e, fun i x hi j u hu => h.cell (hc i x hi j u hu) (hn b o none e).1 (hn b o none e).2⟩⟩
/-- A slice that was known ahead of both blocks. -/
theorem Bx.sl0 {α : Type} {f : α → List Value} {k n : Nat} {A : Option Addr} {l : List α} {z : World} (hs : Sl f k z A n l) (hz : Bl z w) (h : Bx b1 b2 w w') (h1 : z.heap.size ≤ b1) (h2 : z.heap.size ≤ b2) : Sl f k w' A n l := hs.bl (Bx.below hz h h1 h2)
end
theorem Bl.one {w w' : World} (h : Bl w w') {k : Nat} {o : Obj} (hk : w.heap[k]? = some o) : w'.heap[k]? = some o :=
  (Below.block h k (Array.getElem?_eq_some_iff.1 hk).1).trans hk
theorem ci_snoc (o : List Int) (x : Int) : (o ++ [x]).flatMap ci = o.flatMap ci ++ ci x := by simp [List.flatMap_append]
/-- A row of numbers whose block is neither b1 nor b2. -/
def RowX (b1 b2 B E : Nat) (w : World) (v : Value) (n : Nat) (o : List Int) : Prop := w.ownsRow B E 1 v n (o.flatMap ci) ∧ ∀ g, v.ownBlock = some g → g ≠ b1 ∧ g ≠ b2
theorem RowX.bx {b1 b2 B E n : Nat} {w w' : World} {v : Value} {o : List Int} (h : RowX b1 b2 B E w v n o) (hx : Bx b1 b2 w w') : RowX b1 b2 B E w' v n o := ⟨hx.own h.1 h.2, h.2⟩
theorem RowX.bl {b1 b2 B E n : Nat} {w w' : World} {v : Value} {o : List Int} (h : RowX b1 b2 B E w v n o) (hx : Bl w w') : RowX b1 b2 B E w' v n o := ⟨hx.own h.1, h.2⟩
theorem RowX.of_own {b1 b2 B B' E n : Nat} {w : World} {v : Value} {o : List Int} (h : w.ownsRow B' E 1 v n (o.flatMap ci)) (hB : B ≤ B') (h1 : b1 < B') (h2 : b2 < B') : RowX b1 b2 B E w v n o :=
  ⟨own_mono h hB, fun g hg => by have := (World.ownsRow.lt h g hg).1; omega⟩
theorem RowX.len {b1 b2 B E n : Nat} {w : World} {v : Value} {o : List Int} (h : RowX b1 b2 B E w v n o) : o.length = n := by
  have := h.1.1
  rwa [flat_len _ 1 ci_len, Nat.mul_one, Nat.mul_one] at this
theorem RowX.sl {b1 b2 B E n c : Nat} {w : World} {A : Option Addr} {o : List Int} (h : RowX b1 b2 B E w (.slice A n c) n o) (hn : n ≤ 9223372036854775807) : Sl ci 1 w A n o := Sl.of_own ci_len h.1 h.len hn
end Go.Proofs.Ytkeaobjcfkmjmaa
