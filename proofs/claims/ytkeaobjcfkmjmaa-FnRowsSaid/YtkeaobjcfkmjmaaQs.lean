/- Plain laws on sorting by insertion, for whatever elements. No program in sight. -/
import Derived.Test.YtkeaobjcfkmjmaaBase
namespace Go.Proofs.Ytkeaobjcfkmjmaa
open Go.RowKit
section
variable {α : Type} {r : α → α → Bool}
/-- Where x is put into the first k of o; r x y: x goes ahead of y. -/
def posG (r : α → α → Bool) (o : List α) (x : α) : Nat → Nat
  | 0 => 0
  | k + 1 => match o[k]? with
    | some y => if r x y = true then posG r o x k else k + 1
    | none => k + 1
def insG (r : α → α → Bool) (o : List α) (x : α) : List α := o.take (posG r o x o.length) ++ x :: o.drop (posG r o x o.length)
def sortG (r : α → α → Bool) (D : List α) : Nat → List α
  | 0 => []
  | k + 1 => match D[k]? with
    | some x => insG r (sortG r D k) x
    | none => sortG r D k
theorem sortG_one {D : List α} {k : Nat} {x : α} (h : D[k]? = some x) : sortG r D (k + 1) = insG r (sortG r D k) x := by simp [sortG, h]
theorem posG_le (o : List α) (x : α) : ∀ k, posG r o x k ≤ k := by
  intro k
  induction k with
  | zero => simp [posG]
  | succ k ih =>
    simp only [posG]
    split
    · split <;> omega
    · omega
theorem insG_len (o : List α) (x : α) : (insG r o x).length = o.length + 1 := by
  have := posG_le (r := r) o x o.length
  simp [insG]; omega
theorem sortG_len {D : List α} : ∀ k, k ≤ D.length → (sortG r D k).length = k := by
  intro k
  induction k with
  | zero => intro _; rfl
  | succ k ih =>
    intro h
    rw [sortG_one (List.getElem?_eq_getElem (by omega)), insG_len, ih (by omega)]
theorem insG_mem {o : List α} {x y : α} : y ∈ insG r o x ↔ y = x ∨ y ∈ o := by
  unfold insG
  rw [List.mem_append, List.mem_cons]
  constructor
  · rintro (h | h | h)
    · exact .inr (List.mem_of_mem_take h)
    · exact .inl h
    · exact .inr (List.mem_of_mem_drop h)
  · rintro (h | h)
    · exact .inr (.inl h)
    · have : y ∈ o.take (posG r o x o.length) ++ o.drop (posG r o x o.length) := by rw [List.take_append_drop]; exact h
      rcases List.mem_append.1 this with h | h
      · exact .inl h
      · exact .inr (.inr h)
theorem sortG_mem {D : List α} {y : α} : ∀ k, k ≤ D.length → (y ∈ sortG r D k ↔ y ∈ D.take k) := by
  intro k
  induction k with
  | zero => intro _; simp [sortG]
  | succ k ih =>
    intro h
    have hx : D[k]? = some (D[k]'(by omega)) := List.getElem?_eq_getElem (by omega)
    rw [sortG_one hx, insG_mem, ih (by omega), take_one hx, List.mem_append, List.mem_singleton]
    exact Or.comm
theorem posG_go {o : List α} {x y : α} {k : Nat} (hk : 1 ≤ k) (hy : o[k - 1]? = some y) (h : r x y = true) : posG r o x k = posG r o x (k - 1) := by
  obtain ⟨j, rfl⟩ : ∃ j, k = j + 1 := ⟨k - 1, by omega⟩
  rw [Nat.add_sub_cancel] at hy ⊢
  simp [posG, hy, h]
theorem posG_stop {o : List α} {x y : α} {k : Nat} (hk : 1 ≤ k) (hy : o[k - 1]? = some y) (h : r x y = false) : posG r o x k = k := by
  obtain ⟨j, rfl⟩ : ∃ j, k = j + 1 := ⟨k - 1, by omega⟩
  rw [Nat.add_sub_cancel] at hy
  simp [posG, hy, h]
/-- x stands at place j, among o, ahead of the rest. -/
def midG (o : List α) (x : α) (t : List α) (j : Nat) : List α := o.take j ++ x :: (o.drop j ++ t)
theorem midG_at {o : List α} {x : α} {t : List α} {j : Nat} (h : j ≤ o.length) : (midG o x t j)[j]? = some x := by
  rw [midG, List.getElem?_append_right (by simp; omega)]
  simp [Nat.min_eq_left h]
theorem midG_before {o : List α} {x y : α} {t : List α} {j : Nat} (hj : 1 ≤ j) (h : j ≤ o.length) (hy : o[j - 1]? = some y) : (midG o x t j)[j - 1]? = some y := by
  rw [midG, List.getElem?_append_left (by simp; omega), List.getElem?_take, if_pos (by omega)]
  exact hy
theorem midG_len {o : List α} {x : α} {t : List α} {j : Nat} (h : j ≤ o.length) : (midG o x t j).length = o.length + 1 + t.length := by
  simp [midG]; omega
theorem midG_swap {o : List α} {x y : α} {t : List α} {j : Nat} (hj : 1 ≤ j) (h : j ≤ o.length) (hy : o[j - 1]? = some y) : ((midG o x t j).set j y).set (j - 1) x = midG o x t (j - 1) := by
  apply List.ext_getElem?
  intro i
  have hl := midG_len (x := x) (t := t) h
  by_cases hi : i = j - 1
  · subst hi
    rw [List.getElem?_set_self (by rw [List.length_set, hl]; omega), midG_at (by omega)]
  · rw [List.getElem?_set_ne (fun e => hi e.symm)]
    by_cases hi2 : i = j
    · subst hi2
      rw [List.getElem?_set_self (by rw [hl]; omega), midG, List.getElem?_append_right (by simp; omega)]
      have e1 : i - (o.take (i - 1)).length = 1 := by simp; omega
      rw [e1]
      simp only [List.getElem?_cons_succ]
      rw [List.getElem?_append_left (by simp; omega), List.getElem?_drop]
      simp [hy]
    · rw [List.getElem?_set_ne (fun e => hi2 e.symm)]
      by_cases hlt : i < j
      · rw [midG, midG, List.getElem?_append_left (by simp; omega), List.getElem?_append_left (by simp; omega), List.getElem?_take, List.getElem?_take, if_pos hlt, if_pos (by omega)]
      · rw [midG, midG, List.getElem?_append_right (by simp; omega), List.getElem?_append_right (by simp; omega)]
        have e1 : i - (o.take j).length = (i - j - 1) + 1 := by simp; omega
        have e2 : i - (o.take (j - 1)).length = (i - j + 1 - 1) + 1 := by simp; omega
        rw [e1, e2, List.getElem?_cons_succ, List.getElem?_cons_succ]
        by_cases h3 : i < o.length + 1
        · rw [List.getElem?_append_left (by simp; omega), List.getElem?_append_left (by simp; omega), List.getElem?_drop, List.getElem?_drop]
          congr 1; omega
        · rw [List.getElem?_append_right (by simp; omega), List.getElem?_append_right (by simp; omega)]
          congr 1; simp; omega
/-- The row behind i insertions. -/
def dataG (r : α → α → Bool) (D : List α) (i : Nat) : List α := sortG r D i ++ D.drop i
theorem dataG_mid {D : List α} {i : Nat} {x : α} (h : D[i]? = some x) : dataG r D i = midG (sortG r D i) x (D.drop (i + 1)) i := by
  have hi := (List.getElem?_eq_some_iff.1 h).1
  have hl := sortG_len (r := r) (D := D) i (by omega)
  have hd : D.drop i = x :: D.drop (i + 1) := by rw [List.drop_eq_getElem_cons hi, (List.getElem?_eq_some_iff.1 h).2]
  have h1 : (sortG r D i).drop i = [] := List.drop_of_length_le (by omega)
  have h2 : (sortG r D i).take i = sortG r D i := List.take_of_length_le (by omega)
  rw [dataG, hd, midG, h1, h2]
  rfl
theorem mid_dataG {D : List α} {i j : Nat} {x : α} (h : D[i]? = some x) (hp : posG r (sortG r D i) x i = posG r (sortG r D i) x j) (hj : posG r (sortG r D i) x j = j) : midG (sortG r D i) x (D.drop (i + 1)) j = dataG r D (i + 1) := by
  have hi := (List.getElem?_eq_some_iff.1 h).1
  have hl := sortG_len (r := r) (D := D) i (by omega)
  rw [dataG, sortG_one h, insG, hl, hp, hj, midG]
  simp
theorem dataG_one {D : List α} (h : 0 < D.length) : dataG r D 1 = D := by
  have hx : D[0]? = some (D[0]'h) := List.getElem?_eq_getElem h
  rw [dataG, sortG_one hx]
  have : insG r (sortG r D 0) (D[0]'h) = [D[0]'h] := by simp [insG, sortG, posG]
  rw [this]
  cases D with
  | nil => simp at h
  | cons a t => simp
theorem dataG_end (D : List α) : dataG r D D.length = sortG r D D.length := by rw [dataG, List.drop_length, List.append_nil]
theorem dataG_len {D : List α} {i : Nat} (h : i ≤ D.length) : (dataG r D i).length = D.length := by
  simp [dataG, sortG_len i h]; omega
end
end Go.Proofs.Ytkeaobjcfkmjmaa
