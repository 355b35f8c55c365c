/- Boxes of structs of three integers, beside a cursor. No program in sight. -/
import Derived.Test.YtkeaobjcfkmjmaaD1
namespace Go.Proofs.Ytkeaobjcfkmjmaa
open Go.RowKit
theorem three_set0 {w : World} {b : Nat} {v0 v1 v2 u : Value} {t : TypeId} (h : w.heap[b]? = some (.cells #[v0, v1, v2] t (0, 0))) : (w.setCell ⟨b, 0, none⟩ u).heap[b]? = some (.cells #[u, v1, v2] t (0, 0)) := by
  have hlt := lt_of_block h
  have h' : w.heap[b] = .cells #[v0, v1, v2] t (0, 0) := by simpa [Array.getElem?_eq_getElem hlt] using h
  show (w.heap.modify b _)[b]? = _
  rw [Array.getElem?_eq_getElem (by simpa using hlt), Array.getElem_modify_self, h']
  rfl
theorem other3 {w : World} {b b' j : Nat} {o : Obj} {u : Value} (h : w.heap[b]? = some o) (hne : b ≠ b') : (w.setCell ⟨b', j, none⟩ u).heap[b]? = some o := by
  rw [Below.heap_setCell _ _ _ _ hne]; exact h
section
variable {z w w' : World} {g : Nat} {A : Option Addr} {n c k k' : Nat}
/-- A block that isn't the cursor's stays as it is. -/
theorem Dr.blk (h : Dr z g A n c k w w') {b : Nat} {o : Obj} (hb : w.heap[b]? = some o) (hne : b ≠ g) : w'.heap[b]? = some o :=
  (h.1.block b (lt_of_block hb) (fun e => hne (by injection e))).trans hb
/-- A new box is written. -/
theorem Dr.put (h : Dr z g A n c k w w') (hgw : g < w.heap.size) {p : Addr} (hp : w.heap.size ≤ p.block) (u : Value) : Dr z g A n c k w (w'.setCell p u) := by
  obtain ⟨h1, h2, h3, q, sd, h4, h5⟩ := h
  refine ⟨⟨h1.os, h1.tape, h1.output, by have := h1.size; simpa [World.setCell] using this, fun j hj hr => ?_⟩, h2.setCell ?_ u, h3, q, sd, h4, ?_⟩
  · rw [Below.heap_setCell _ _ _ _ (by omega)]
    exact h1.block j hj hr
  · omega
  · rw [Below.heap_setCell _ _ _ _ (by omega)]
    exact h5
theorem Dr.size (h : Dr z g A n c k w w') : w.heap.size ≤ w'.heap.size := h.1.size
end
theorem own_lits {α : Type} (f : α → List Value) (k : Nat) (hf : ∀ x, (f x).length = k) (w : World) (e B H : Nat) (l : List α) (hH : w.heap.size = H) (hB : B ≤ H) (hl : l.length ≤ 1000) : (w.alloc (.cells (l.flatMap f).toArray e)).ownsRow B e k (.slice (some ⟨H, 0, none⟩) l.length l.length) l.length (l.flatMap f) := by
  subst hH
  refine ⟨flat_len f k hf l, .inr ⟨w.heap.size, l.length, (l.flatMap f).toArray, rfl, hB, heap_alloc_new w _, Nat.le_refl _, by unfold maxLen; omega, by simp [flat_len f k hf l], ?_⟩⟩
  have := List.take_of_length_le (Nat.le_of_eq (flat_len f k hf l))
  simpa using this
/-- A row of two elements or more isn't a box of one. -/
theorem own_ne3 {w : World} {B E m cp S : Nat} {L : Option Addr} {xs : List Value} {v0 v1 v2 : Value} {t : TypeId} (ho : w.ownsRow B E 3 (.slice L m cp) m xs) (hm : 2 ≤ m) (hS : w.heap[S]? = some (.cells #[v0, v1, v2] t (0, 0))) : ∀ b o s, L = some ⟨b, o, s⟩ → b ≠ S := fun b o s e => by
  subst e
  rintro rfl
  rcases ho.2 with ⟨hv, hn⟩ | ⟨g, cap, cur, hv, hb, hg, hnc, hmx, hs, _⟩
  · omega
  · injection hv with h1 h2 h3
    injection h1 with h1
    injection h1 with h1
    subst h1
    rw [hS] at hg
    have := Option.some.inj hg
    injection this with h4
    rw [← h4] at hs
    simp at hs
    omega
end Go.Proofs.Ytkeaobjcfkmjmaa
