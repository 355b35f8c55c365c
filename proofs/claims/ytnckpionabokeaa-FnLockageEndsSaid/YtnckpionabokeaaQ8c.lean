/- Plain laws on the order by minutes and Ids: insertion. No program in sight. -/
import Derived.Test.YtnckpionabokeaaQ8
import Derived.Test.YtnckpionabokeaaCmp
namespace Go.Proofs.Ytnckpionabokeaa
open Go.RowKit
def befI (l : List Arrival) (x y : Int) : Bool := befA (arrAtI l x) (arrAtI l y)
def ofAt (o : List Int) (k : Nat) : Int := (o[k]?).getD 0
theorem ofAt_eq {o : List Int} {k : Nat} {x : Int} (h : o[k]? = some x) : ofAt o k = x := by simp [ofAt, h]
/-- Where x is put into the first k of o. -/
def posK (l : List Arrival) (o : List Int) (x : Int) : Nat → Nat
  | 0 => 0
  | k + 1 => if befI l x (ofAt o k) = true then posK l o x k else k + 1
def ins (l : List Arrival) (o : List Int) (x : Int) : List Int := o.take (posK l o x o.length) ++ x :: o.drop (posK l o x o.length)
def fcK (l : List Arrival) : Nat → List Int
  | 0 => []
  | k + 1 => ins l (fcK l k) (k : Int)
theorem posK_le (l : List Arrival) (o : List Int) (x : Int) : ∀ k, posK l o x k ≤ k := by
  intro k
  induction k with
  | zero => simp [posK]
  | succ k ih => simp only [posK]; split <;> omega
theorem ins_len (l : List Arrival) (o : List Int) (x : Int) : (ins l o x).length = o.length + 1 := by
  have := posK_le l o x o.length
  simp [ins]; omega
theorem fcK_len (l : List Arrival) : ∀ k, (fcK l k).length = k := by
  intro k
  induction k with
  | zero => rfl
  | succ k ih => rw [fcK, ins_len, ih]
theorem fcK_mem (l : List Arrival) : ∀ (k : Nat) (x : Int), x ∈ fcK l k → 0 ≤ x ∧ x < k := by
  intro k
  induction k with
  | zero => intro x h; simp [fcK] at h
  | succ k ih =>
    intro x h
    rw [fcK, ins, List.mem_append, List.mem_cons] at h
    rcases h with h | rfl | h
    · have := ih x (List.mem_of_mem_take h); omega
    · omega
    · have := ih x (List.mem_of_mem_drop h); omega
theorem posK_go {l : List Arrival} {o : List Int} {x y : Int} {k : Nat} (hk : 1 ≤ k) (hy : o[k - 1]? = some y) (h : befI l x y = true) : posK l o x k = posK l o x (k - 1) := by
  obtain ⟨j, rfl⟩ : ∃ j, k = j + 1 := ⟨k - 1, by omega⟩
  rw [Nat.add_sub_cancel] at hy ⊢
  rw [posK, ofAt_eq hy, if_pos h]
theorem posK_stop {l : List Arrival} {o : List Int} {x y : Int} {k : Nat} (hk : 1 ≤ k) (hy : o[k - 1]? = some y) (h : befI l x y = false) : posK l o x k = k := by
  obtain ⟨j, rfl⟩ : ∃ j, k = j + 1 := ⟨k - 1, by omega⟩
  rw [Nat.add_sub_cancel] at hy
  rw [posK, ofAt_eq hy, if_neg (by simp [h])]
/-- The numbers i, i + 1, .., n - 1. -/
def restI (i n : Nat) : List Int := (List.range (n - i)).map fun (t : Nat) => ((i + t : Nat) : Int)
theorem restI_len (i n : Nat) : (restI i n).length = n - i := by simp [restI]
theorem restI_cons {i n : Nat} (h : i < n) : restI i n = (i : Int) :: restI (i + 1) n := by
  apply List.ext_getElem?
  intro k
  cases k with
  | zero =>
    rw [restI, List.getElem?_map, List.getElem?_range (by omega)]
    simp
  | succ k =>
    simp only [restI, List.getElem?_cons_succ, List.getElem?_map]
    by_cases hk : k + 1 < n - i
    · rw [List.getElem?_range hk, List.getElem?_range (by omega)]
      simp; omega
    · rw [List.getElem?_eq_none (by simp; omega), List.getElem?_eq_none (by simp; omega)]; rfl
theorem restI_none {i n : Nat} (h : n ≤ i) : restI i n = [] := by simp [restI, Nat.sub_eq_zero_of_le h]
theorem restI_snoc {n : Nat} : restI 0 (n + 1) = restI 0 n ++ [(n : Int)] := by simp [restI, List.range_succ]
/-- x stands at place j, among o, ahead of the rest. -/
def midL (o : List Int) (x : Int) (r : List Int) (j : Nat) : List Int := o.take j ++ x :: (o.drop j ++ r)
theorem midL_at {o : List Int} {x : Int} {r : List Int} {j : Nat} (h : j ≤ o.length) : (midL o x r j)[j]? = some x := by
  rw [midL, List.getElem?_append_right (by simp; omega)]
  simp [Nat.min_eq_left h]
theorem midL_before {o : List Int} {x y : Int} {r : List Int} {j : Nat} (hj : 1 ≤ j) (h : j ≤ o.length) (hy : o[j - 1]? = some y) : (midL o x r j)[j - 1]? = some y := by
  rw [midL, List.getElem?_append_left (by simp; omega), List.getElem?_take, if_pos (by omega)]
  exact hy
theorem midL_len {o : List Int} {x : Int} {r : List Int} {j : Nat} (h : j ≤ o.length) : (midL o x r j).length = o.length + 1 + r.length := by
  simp [midL]; omega
theorem midL_swap {o : List Int} {x y : Int} {r : List Int} {j : Nat} (hj : 1 ≤ j) (h : j ≤ o.length) (hy : o[j - 1]? = some y) : ((midL o x r j).set j y).set (j - 1) x = midL o x r (j - 1) := by
  apply List.ext_getElem?
  intro i
  have hl := midL_len (x := x) (r := r) h
  by_cases hi : i = j - 1
  · subst hi
    rw [List.getElem?_set_self (by rw [List.length_set, hl]; omega), midL_at (by omega)]
  · rw [List.getElem?_set_ne (fun e => hi e.symm)]
    by_cases hi2 : i = j
    · subst hi2
      rw [List.getElem?_set_self (by rw [hl]; omega), midL, List.getElem?_append_right (by simp; omega)]
      have e1 : i - (o.take (i - 1)).length = 1 := by simp; omega
      rw [e1]
      simp only [List.getElem?_cons_succ]
      rw [List.getElem?_append_left (by simp; omega), List.getElem?_drop]
      simp [hy]
    · rw [List.getElem?_set_ne (fun e => hi2 e.symm)]
      by_cases hlt : i < j
      · rw [midL, midL, List.getElem?_append_left (by simp; omega), List.getElem?_append_left (by simp; omega), List.getElem?_take, List.getElem?_take, if_pos hlt, if_pos (by omega)]
      · rw [midL, midL, List.getElem?_append_right (by simp; omega), List.getElem?_append_right (by simp; omega)]
        have e1 : i - (o.take j).length = (i - j - 1) + 1 := by simp; omega
        have e2 : i - (o.take (j - 1)).length = (i - j + 1 - 1) + 1 := by simp; omega
        rw [e1, e2, List.getElem?_cons_succ, List.getElem?_cons_succ]
        by_cases h3 : i < o.length + 1
        · rw [List.getElem?_append_left (by simp; omega), List.getElem?_append_left (by simp; omega), List.getElem?_drop, List.getElem?_drop]
          congr 1; omega
        · rw [List.getElem?_append_right (by simp; omega), List.getElem?_append_right (by simp; omega)]
          congr 1; simp; omega
/-- The row behind i insertions. -/
def dataK (l : List Arrival) (n i : Nat) : List Int := fcK l i ++ restI i n
theorem dataK_len {l : List Arrival} {n i : Nat} (h : i ≤ n) : (dataK l n i).length = n := by simp [dataK, fcK_len, restI_len]; omega
theorem dataK_mid {l : List Arrival} {n i : Nat} (h : i < n) : dataK l n i = midL (fcK l i) (i : Int) (restI (i + 1) n) i := by
  rw [dataK, restI_cons h, midL, List.take_of_length_le (by rw [fcK_len]; exact Nat.le_refl _), List.drop_of_length_le (by rw [fcK_len]; exact Nat.le_refl _)]
  rfl
theorem mid_dataK {l : List Arrival} {n i j : Nat} (hp : posK l (fcK l i) (i : Int) i = posK l (fcK l i) (i : Int) j) (hj : posK l (fcK l i) (i : Int) j = j) : midL (fcK l i) (i : Int) (restI (i + 1) n) j = dataK l n (i + 1) := by
  rw [dataK, fcK, ins, fcK_len, hp, hj, midL]
  simp
theorem dataK_one {l : List Arrival} {n : Nat} (h : 0 < n) : dataK l n 1 = restI 0 n := by
  rw [restI_cons h, dataK]
  simp [fcK, ins, posK]
theorem dataK_end (l : List Arrival) (n : Nat) : dataK l n n = fcK l n := by rw [dataK, restI_none (Nat.le_refl _), List.append_nil]
def firstR (l : List Arrival) : List Int × Bool := if arrOk l = true then (fcK l l.length, true) else ([], false)
end Go.Proofs.Ytnckpionabokeaa
