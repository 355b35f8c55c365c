/- What the library's sort leaves, in terms of lists. No program in sight. -/
import Derived.Shelf.SlSortCmp.NoneTotal
import Derived.Test.YtkeaobjcfkmjmaaBase3
namespace Go.Proofs.Ytkeaobjcfkmjmaa
open Go.RowKit Go.Lib
section
variable {α : Type} [Inhabited α]
theorem flatK_list (f : α → List Value) (k : Nat) (hf : ∀ x, (f x).length = k) (d : Array α) : (Go.Sort.flatK f k d).toList = d.toList.flatMap f := by
  apply List.ext_getElem?
  intro t
  by_cases ht : t < d.size * k
  · have hk : 0 < k := by
      rcases Nat.eq_zero_or_pos k with h | h
      · subst h; simp at ht
      · exact h
    have hd : t / k < d.size := (Nat.div_lt_iff_lt_mul hk).2 ht
    have hm : t % k < k := Nat.mod_lt _ hk
    have e : t = t / k * k + t % k := by have := Nat.div_add_mod t k; rw [Nat.mul_comm] at this; omega
    have hx : d.toList[t / k]? = some d[t / k] := by simp [hd]
    have h1 := flat_get f k hf d.toList (t / k) _ hx (t % k) hm
    rw [← e] at h1
    rw [h1]
    have h2 : (Go.Sort.flatK f k d)[t]! = (f d[t / k]!)[t % k]! := Go.Sort.get_flatK f k d t ht
    have hs : t < (Go.Sort.flatK f k d).size := by simpa using ht
    have h3 : (Go.Sort.flatK f k d).toList[t]? = some ((Go.Sort.flatK f k d)[t]!) := by
      rw [getElem!_pos _ t hs]; simp [hs]
    rw [h3, h2, getElem!_pos d (t / k) hd]
    have hl : t % k < (f d[t / k]).length := by rw [hf]; exact hm
    rw [getElem!_pos _ (t % k) hl, List.getElem?_eq_getElem hl]
  · rw [List.getElem?_eq_none (by simp; omega), List.getElem?_eq_none (by rw [flat_len f k hf]; simp; omega)]
end
theorem holds_own {w : World} {B E k n g c : Nat} {xs : List Value} (ho : w.ownsRow B E k (.slice (some ⟨g, 0, none⟩) n c) n xs) {F : Array Value} (hF : F.toList = xs) : Go.Sort.Holds id w g 0 F := by
  intro j hj
  have hjx : j < xs.length := by rw [← hF]; simpa using hj
  have hjn : j < n * k := by rw [← ho.1]; exact hjx
  have e : (⟨g, 0 + j, none⟩ : Addr) = ⟨g, j, none⟩ := by rw [Nat.zero_add]
  rw [e]
  refine ⟨?_, World.ownsRow.frozenAt ho j⟩
  rw [World.ownsRow.cellAt ho j hjn, List.getElem?_eq_getElem hjx]
  congr 1
  subst hF
  rw [getElem!_pos F j hj]
  simp
theorem sort_world {w : World} {B E k n g c : Nat} {xs ys : List Value} (ho : w.ownsRow B E k (.slice (some ⟨g, 0, none⟩) n c) n xs) {F : Array Value} (hF : F.toList = ys) (hl : ys.length = xs.length) (m : Nat) (os : Array Obj) :
    (Go.Sort.grow (Go.Sort.putRow id (Go.Sort.ahead w m) g 0 F) os).ownsRow B E k (.slice (some ⟨g, 0, none⟩) n c) n ys ∧ w.grownBy (Go.Sort.grow (Go.Sort.putRow id (Go.Sort.ahead w m) g 0 F) os) (some g) := by
  have hblk : ∀ i, i < w.heap.size → i ≠ g → (Go.Sort.grow (Go.Sort.putRow id (Go.Sort.ahead w m) g 0 F) os).heap[i]? = w.heap[i]? := by
    intro i hi hne
    simp only [Go.Sort.grow, Go.Sort.putRow, Go.Sort.mapBlock, Go.Sort.ahead]
    rw [Array.getElem?_append_left (by simpa using hi), Array.getElem?_modify, if_neg (Ne.symm hne)]
  refine ⟨⟨by rw [hl]; exact ho.1, ?_⟩, ⟨rfl, rfl, rfl, by simp [Go.Sort.grow, Go.Sort.putRow, Go.Sort.mapBlock, Go.Sort.ahead], fun i hi hr => hblk i hi (fun e => hr (by rw [e]))⟩⟩
  rcases ho.2 with ⟨hv, _⟩ | ⟨g', cap, cur, hv, hb, hg, hn, hm, hs, hx⟩
  · injection hv with h1; cases h1
  · injection hv with h1 h2 h3
    injection h1 with h1
    injection h1 with h1
    subst h1 h3
    refine .inr ⟨g, c, Go.Sort.putCells id 0 F cur, rfl, hb, ?_, hn, hm, by simp [Go.Sort.putCells, hs], ?_⟩
    · have hi := (Array.getElem?_eq_some_iff.1 hg).1
      simp only [Go.Sort.grow, Go.Sort.putRow, Go.Sort.mapBlock, Go.Sort.ahead]
      rw [Array.getElem?_append_left (by simpa using hi), Array.getElem?_modify, if_pos rfl, hg]
      rfl
    · have hFl : F.size = n * k := by have := congrArg List.length hF; rw [hl, ho.1] at this; simpa using this
      have hnk : n * k ≤ c * k := Nat.mul_le_mul_right k hn
      apply List.ext_getElem?
      intro j
      by_cases hj : j < n * k
      · rw [List.getElem?_take_of_lt hj, ← hF]
        have hjc : j < cur.size := by omega
        simp [Go.Sort.putCells, hjc, hFl, hj]
      · rw [List.getElem?_eq_none (Nat.le_trans (List.length_take_le _ _) (by omega)), List.getElem?_eq_none (by rw [hl, ho.1]; omega)]
end Go.Proofs.Ytkeaobjcfkmjmaa
