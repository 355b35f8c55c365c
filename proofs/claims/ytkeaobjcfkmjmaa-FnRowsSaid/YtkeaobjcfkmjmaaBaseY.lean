/- Words for memory of which some blocks in a row are written besides new ones: the variables that a closure captures and writes. No program in sight. -/
import Derived.Test.YtkeaobjcfkmjmaaBaseX
namespace Go.Proofs.Ytkeaobjcfkmjmaa
open Go.RowKit
/-- From w on only new memory and the blocks b .. c have been written. -/
structure By (b c : Nat) (w w' : World) : Prop where
  os : w'.os = w.os
  tape : w'.tape = w.tape
  output : w'.output = w.output
  size : w.heap.size ≤ w'.heap.size
  block : ∀ k, k < w.heap.size → (k < b ∨ c < k) → w'.heap[k]? = w.heap[k]?
section
variable {b c : Nat} {w w' a : World}
theorem By.refl (w : World) : By b c w w := ⟨rfl, rfl, rfl, Nat.le_refl _, fun _ _ _ => rfl⟩
theorem By.trans {x y z : World} (h : By b c x y) (k : By b c y z) : By b c x z :=
  ⟨k.os.trans h.os, k.tape.trans h.tape, k.output.trans h.output, Nat.le_trans h.size k.size, fun i hi n1 => (k.block i (Nat.lt_of_lt_of_le hi h.size) n1).trans (h.block i hi n1)⟩
theorem By.of_bl (h : Bl w w') : By b c w w' := ⟨h.os, h.tape, h.output, h.size, fun k hk _ => h.block k hk⟩
theorem By.bl {x y z : World} (h : By b c x y) (k : Bl y z) : By b c x z := h.trans (.of_bl k)
theorem By.drew (h : By b c a w) : By b c a w.drew := h.trans ⟨rfl, rfl, rfl, Nat.le_refl _, fun _ _ _ => rfl⟩
theorem By.alloc (h : By b c a w) (o : Obj) : By b c a (w.alloc o) := h.trans (.of_bl ((Bl.refl w).alloc o))
theorem By.put (h : By b c a w) {p : Nat} (h1 : b ≤ p) (h2 : p ≤ c) (u : Value) : By b c a (w.setCell ⟨p, 0, none⟩ u) :=
  h.trans ⟨rfl, rfl, rfl, by simp [World.setCell], fun k _ n1 => Below.heap_setCell _ _ _ _ (by show k ≠ p; omega)⟩
theorem By.le (h : By b c w w') : w.heap.size ≤ w'.heap.size := h.size
/-- Seen from a world that knows none of these blocks. -/
theorem By.below {z : World} (hz : Bl z w) (h : By b c w w') (h1 : z.heap.size ≤ b) : Bl z w' :=
  ⟨h.os.trans hz.os, h.tape.trans hz.tape, h.output.trans hz.output, Nat.le_trans hz.size h.size, fun k hk => by
    have := hz.size
    rw [h.block k (by omega) (by omega)]
    exact hz.block k hk⟩
theorem By.cell (h : By b c w w') {p : Addr} {u : Value} (hc : w.cell? p = some u) (n1 : p.block < b ∨ c < p.block) : w'.cell? p = some u :=
  (World.cell?_of_block (h.block p.block (World.block_lt_of_cell? w p hc) n1)).trans hc
theorem By.one (h : By b c w w') {k : Nat} {o : Obj} (hk : w.heap[k]? = some o) (n1 : k < b ∨ c < k) : w'.heap[k]? = some o :=
  (h.block k (Array.getElem?_eq_some_iff.1 hk).1 n1).trans hk
theorem By.own (h : By b c w w') {B E k n : Nat} {v : Value} {xs : List Value} (ho : w.ownsRow B E k v n xs) (hn : ∀ g, v.ownBlock = some g → g < b ∨ c < g) : w'.ownsRow B E k v n xs := by
  refine ⟨ho.1, ?_⟩
  rcases ho.2 with h0 | ⟨g, cap, cur, rfl, hb, hg, rest⟩
  · exact .inl h0
  · exact .inr ⟨g, cap, cur, rfl, hb, h.one hg (hn g rfl), rest⟩
/-- A slice that was known ahead of these blocks. -/
theorem By.sl0 {α : Type} {f : α → List Value} {k n : Nat} {A : Option Addr} {l : List α} {z : World} (hs : Sl f k z A n l) (hz : Bl z w) (h : By b c w w') (h1 : z.heap.size ≤ b) : Sl f k w' A n l := hs.bl (By.below hz h h1)
end
theorem snoc_flat {α : Type} (f : α → List Value) (o : List α) (x : α) : (o ++ [x]).flatMap f = o.flatMap f ++ f x := by simp [List.flatMap_append]
/-- A row whose block is none of these. -/
def RowY {α : Type} (f : α → List Value) (s b c B E : Nat) (w : World) (v : Value) (n : Nat) (o : List α) : Prop := w.ownsRow B E s v n (o.flatMap f) ∧ ∀ g, v.ownBlock = some g → g < b ∨ c < g
section
variable {α : Type} {f : α → List Value} {s b c B B' E n : Nat} {w w' : World} {v : Value} {o : List α}
theorem RowY.by_ (h : RowY f s b c B E w v n o) (hx : By b c w w') : RowY f s b c B E w' v n o := ⟨hx.own h.1 h.2, h.2⟩
theorem RowY.bl (h : RowY f s b c B E w v n o) (hx : Bl w w') : RowY f s b c B E w' v n o := ⟨hx.own h.1, h.2⟩
theorem RowY.of_own (h : w.ownsRow B' E s v n (o.flatMap f)) (hB : B ≤ B') (h1 : c < B') : RowY f s b c B E w v n o :=
  ⟨own_mono h hB, fun g hg => by have := (World.ownsRow.lt h g hg).1; omega⟩
theorem RowY.len (h : RowY f s b c B E w v n o) (hf : ∀ x, (f x).length = s) (hs : 0 < s) : o.length = n := by
  have := h.1.1
  rw [flat_len _ s hf] at this
  exact Nat.eq_of_mul_eq_mul_right hs this
theorem RowY.sl {A : Option Addr} {d : Nat} (hf : ∀ x, (f x).length = s) (hs : 0 < s) (h : RowY f s b c B E w (.slice A n d) n o) (hn : n ≤ 9223372036854775807) : Sl f s w A n o := Sl.of_own hf h.1 (h.len hf hs) hn
end
end Go.Proofs.Ytkeaobjcfkmjmaa
