/- Tables: rows of slices of two numbers. -/
import Derived.Test.YtkeaobjcfkmjmaaBase3
import Derived.Test.YtkeaobjcfkmjmaaRows
import Derived.Test.YtkeaobjcfkmjmaaBaseY
import Derived.Test.YtkeaobjcfkmjmaaBaseZ
namespace Go.Proofs.Ytkeaobjcfkmjmaa
open Go.RowKit
/-- A row's block: its slice is whole and holds two numbers. -/
abbrev Sv := Nat
def cr (g : Sv) : List Value := [.slice (some ⟨g, 0, none⟩) 2 2]
theorem cr_len (g : Sv) : (cr g).length = 1 := rfl
theorem cr_one (g : Sv) : ∀ u ∈ cr g, u.oneCell' = true := by intro u hu; simp [cr] at hu; subst hu; rfl
theorem infoRow : (Try.prog.info? 36).map (fun i => (i.zero, i.size, i.bytes)) = some (some (.slice none 0 0), 1, 24) := by kernel_rfl
/-- What the rows hold: all new, no two in one block. -/
structure In (b : Nat) (w : World) (gs : List Sv) (T : List (Int × Int)) : Prop where
  len : gs.length = T.length
  at_ : ∀ (i : Nat) (g : Sv) (p : Int × Int), gs[i]? = some g → T[i]? = some p → b ≤ g ∧ w.heap[g]? = some (.cells #[.int .i64 p.1, .int .i64 p.2] 3 (0, 0))
  nd : gs.Nodup
section
variable {b n : Nat} {w w' : World} {gs : List Sv} {T : List (Int × Int)}
theorem In.nil : In b w [] [] := ⟨rfl, fun i g p h => by simp at h, List.nodup_nil⟩
theorem In.get (h : In b w gs T) {i : Nat} (hi : i < gs.length) : ∃ (g : Sv) (p : Int × Int), gs[i]? = some g ∧ T[i]? = some p ∧ b ≤ g ∧ w.heap[g]? = some (.cells #[.int .i64 p.1, .int .i64 p.2] 3 (0, 0)) := by
  have e1 : gs[i]? = some gs[i] := List.getElem?_eq_getElem hi
  have hi2 : i < T.length := by rw [← h.len]; exact hi
  have e2 : T[i]? = some T[i] := List.getElem?_eq_getElem hi2
  exact ⟨_, _, e1, e2, h.at_ i _ _ e1 e2⟩
theorem In.ex (h : In b w gs T) {g : Sv} (hg : g ∈ gs) : ∃ p : Int × Int, b ≤ g ∧ w.heap[g]? = some (.cells #[.int .i64 p.1, .int .i64 p.2] 3 (0, 0)) := by
  obtain ⟨i, hi⟩ := List.mem_iff_getElem?.1 hg
  obtain ⟨g', p, e1, e2, h1, h2⟩ := h.get (List.getElem?_eq_some_iff.1 hi).1
  rw [hi] at e1
  obtain rfl := Option.some.inj e1
  exact ⟨p, h1, h2⟩
theorem In.bl (h : In b w gs T) (hb : Bl w w') : In b w' gs T := ⟨h.len, fun i g p e1 e2 => ⟨(h.at_ i g p e1 e2).1, hb.one (h.at_ i g p e1 e2).2⟩, h.nd⟩
theorem In.down {b' : Nat} (h : In b w gs T) (hb : b' ≤ b) : In b' w gs T := ⟨h.len, fun i g p e1 e2 => ⟨Nat.le_trans hb (h.at_ i g p e1 e2).1, (h.at_ i g p e1 e2).2⟩, h.nd⟩
/-- The table's own block isn't one of its rows'. -/
theorem In.apart (h : In b w gs T) {B m c : Nat} {A : Option Addr} {xs : List Value} (ho : w.ownsRow B 36 1 (.slice A m c) m xs) : ∀ g ∈ gs, (Value.slice A m c).ownBlock ≠ some g := by
  intro g hg e
  obtain ⟨p, _, hc⟩ := h.ex hg
  rcases ho.2 with ⟨hv, _⟩ | ⟨g', cap, cur, hv, _, hg', _⟩
  · rw [hv] at e; cases e
  · rw [hv] at e
    have : g' = g := by injection e
    subst this
    rw [hc] at hg'
    have := Option.some.inj hg'
    injection this with h1 h2
    cases h2
theorem In.grown (h : In b w gs T) {B m c : Nat} {A : Option Addr} {xs : List Value} (ho : w.ownsRow B 36 1 (.slice A m c) m xs) (hg : w.grownBy w' (Value.slice A m c).ownBlock) : In b w' gs T :=
  ⟨h.len, fun i g p e1 e2 => ⟨(h.at_ i g p e1 e2).1, (hg.block g (lt_of_block (h.at_ i g p e1 e2).2) (fun e => h.apart ho g (List.mem_of_getElem? e1) e.symm)).trans (h.at_ i g p e1 e2).2⟩, h.nd⟩
/-- A new row is put in. -/
theorem In.put (h : In b w gs T) {g p : Nat} {x : Int × Int} (hp : p ≤ gs.length) (hb : b ≤ g) (hg : w.heap[g]? = some (.cells #[.int .i64 x.1, .int .i64 x.2] 3 (0, 0))) (hne : g ∉ gs) : In b w ((gs.take p ++ [g]) ++ gs.drop p) ((T.take p ++ [x]) ++ T.drop p) := by
  have hpT : p ≤ T.length := by rw [← h.len]; exact hp
  refine ⟨by simp [h.len], ?_, ?_⟩
  · intro i k y e1 e2
    by_cases h1 : i < p
    · rw [List.getElem?_append_left (by simp; omega), List.getElem?_append_left (by simp; omega), List.getElem?_take_of_lt h1] at e1
      rw [List.getElem?_append_left (by simp; omega), List.getElem?_append_left (by simp; omega), List.getElem?_take_of_lt h1] at e2
      exact h.at_ i k y e1 e2
    · by_cases h2 : i = p
      · subst h2
        rw [List.getElem?_append_left (by simp; omega), List.getElem?_append_right (by simp; omega)] at e1 e2
        simp [Nat.min_eq_left hp] at e1
        simp [Nat.min_eq_left hpT] at e2
        subst e1 e2
        exact ⟨hb, hg⟩
      · rw [List.getElem?_append_right (by simp; omega), List.getElem?_drop] at e1 e2
        simp only [List.length_append, List.length_take, List.length_singleton, Nat.min_eq_left hp] at e1
        simp only [List.length_append, List.length_take, List.length_singleton, Nat.min_eq_left hpT] at e2
        exact h.at_ _ k y e1 e2
  · have hp2 : ((gs.take p ++ [g]) ++ gs.drop p).Perm (g :: gs) := by
      rw [List.append_assoc]
      show (gs.take p ++ g :: gs.drop p).Perm _
      refine List.Perm.trans List.perm_middle ?_
      rw [List.take_append_drop]
    rw [hp2.nodup_iff, List.nodup_cons]
    exact ⟨hne, h.nd⟩
theorem In.snoc (h : In b w gs T) {g : Nat} {x : Int × Int} (hb : b ≤ g) (hg : w.heap[g]? = some (.cells #[.int .i64 x.1, .int .i64 x.2] 3 (0, 0))) (hne : g ∉ gs) : In b w (gs ++ [g]) (T ++ [x]) := by
  have := h.put (p := gs.length) (Nat.le_refl _) hb hg hne
  rw [List.take_of_length_le (Nat.le_refl _), List.drop_of_length_le (Nat.le_refl _), List.take_of_length_le (by rw [h.len]; exact Nat.le_refl _), List.drop_of_length_le (by rw [h.len]; exact Nat.le_refl _)] at this
  simpa using this
end
/-- A row's block isn't a block of another type. -/
theorem own_ne_ty {w : World} {B E E' s m c S : Nat} {A : Option Addr} {xs : List Value} {cs : Array Value} {fr : Nat × Nat} (ho : w.ownsRow B E s (.slice A m c) m xs) (hS : w.heap[S]? = some (.cells cs E' fr)) (hE : E ≠ E') : (Value.slice A m c).ownBlock ≠ some S := by
  intro e
  rcases ho.2 with ⟨hv, _⟩ | ⟨g', cap, cur, hv, _, hg', _⟩
  · rw [hv] at e; cases e
  · rw [hv] at e
    have : g' = S := by injection e
    subst this
    rw [hS] at hg'
    have := Option.some.inj hg'
    injection this with h1 h2
    exact hE h2.symm
/-- A table that is handed back: all of it new. -/
def NewTab (T : List (Int × Int)) (F : Value → Value) (w : World) (e : Ending) (w' : World) : Prop :=
  ∃ (B : Option Addr) (m c : Nat) (gs : List Sv), e = .returned (F (.slice B m c)) ∧ w'.ownsRow w.heap.size 36 1 (.slice B m c) m (gs.flatMap cr) ∧ gs.length = m ∧ In w.heap.size w' gs T ∧ m ≤ 1048576 ∧ Bl w w'
theorem two_cell {w : World} {b : Nat} {v0 v1 : Value} {t : TypeId} (h : w.heap[b]? = some (.cells #[v0, v1] t (0, 0))) : w.cell? ⟨b, 0, none⟩ = some v0 ∧ w.cell? ⟨b, 1, none⟩ = some v1 :=
  ⟨by rw [cell_of_row _ _ 0 _ _ (0, 0) h]; rfl, by rw [cell_of_row _ _ 1 _ _ (0, 0) h]; rfl⟩
end Go.Proofs.Ytkeaobjcfkmjmaa
