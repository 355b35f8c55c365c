/- Plain laws on series: jumps, stuck sensors, calm runs. No program in sight. -/
import Derived.Test.YtmnbbnboaokgjaaQ6s
namespace Go.Proofs.Ytmnbbnboaokgjaa
open Go.RowKit
def serOk (l : List Int) : Bool := l.all gauge && decide (l.length ≤ 20)
theorem ser_len {l : List Int} (h : serOk l = true) : l.length ≤ 20 := by
  simp only [serOk, Bool.and_eq_true, decide_eq_true_eq] at h; exact h.2
theorem ser_rng {l : List Int} (h : serOk l = true) {i : Nat} {x : Int} (hx : l[i]? = some x) : 0 ≤ x ∧ x ≤ 2000 := by
  simp only [serOk, Bool.and_eq_true, List.all_eq_true] at h
  exact inB_iff.1 (h.1 x (List.mem_of_getElem? hx))
/-! ### jumps -/
def farAt (l : List Int) (i : Nat) : Int := farZ ((l[i]?).getD 0) ((l[i - 1]?).getD 0)
theorem far_at {l : List Int} {i : Nat} {x y : Int} (hx : l[i]? = some x) (hy : l[i - 1]? = some y) : farAt l i = farZ x y := by simp [farAt, hx, hy]
theorem far_comm (x y : Int) : farZ x y = farZ y x := by unfold farZ; omega
def isJ (l : List Int) (m : Int) (i : Nat) : Bool := decide (1 ≤ i) && decide (m < farAt l i)
def jumpF (l : List Int) (m : Int) : Option Nat := (List.range l.length).find? (isJ l m)
theorem jump_some {l : List Int} {m : Int} {i : Nat} (h1 : 1 ≤ i) (hi : i < l.length) (hj : m < farAt l i) (hn : ∀ j, 1 ≤ j → j < i → farAt l j ≤ m) : jumpF l m = some i := by
  rw [jumpF, List.find?_range_eq_some]
  refine ⟨by simp [isJ, h1, hj], List.mem_range.2 hi, fun j hji => ?_⟩
  by_cases h : 1 ≤ j
  · have := hn j h hji
    simp [isJ]; omega
  · simp [isJ]; omega
theorem jump_none {l : List Int} {m : Int} (hn : ∀ j, 1 ≤ j → j < l.length → farAt l j ≤ m) : jumpF l m = none := by
  rw [jumpF, List.find?_range_eq_none]
  intro j hj
  by_cases h : 1 ≤ j
  · have := hn j h hj
    simp [isJ]; omega
  · simp [isJ]; omega
theorem jump_first {l : List Int} {m : Int} {i : Nat} (h : jumpF l m = some i) : 1 ≤ i ∧ i < l.length ∧ m < farAt l i ∧ ∀ j, 1 ≤ j → j < i → farAt l j ≤ m := by
  rw [jumpF, List.find?_range_eq_some] at h
  obtain ⟨h1, h2, h3⟩ := h
  simp only [isJ, Bool.and_eq_true, decide_eq_true_eq] at h1
  refine ⟨h1.1, List.mem_range.1 h2, h1.2, fun j hj hji => ?_⟩
  have := h3 j hji
  simp [isJ] at this
  rcases this with h | h
  · omega
  · exact h
def jumpR (l : List Int) (m : Int) : Int × Bool := if serOk l = true ∧ gauge m = true then (match jumpF l m with | some i => ((i : Int), true) | none => (0, false)) else (0, false)
theorem jump_no {l : List Int} {m : Int} (h : serOk l = false ∨ inB m 0 2000 = false) : jumpR l m = (0, false) := by
  unfold jumpR
  rw [if_neg]
  rintro ⟨h1, h2⟩
  rcases h with h | h
  · rw [h] at h1; cases h1
  · have : gauge m = inB m 0 2000 := rfl
    rw [this, h] at h2; cases h2
theorem jump_yes {l : List Int} {m : Int} {i : Nat} (h1 : serOk l = true) (h2 : inB m 0 2000 = true) (h : jumpF l m = some i) : jumpR l m = ((i : Int), true) := by
  unfold jumpR; rw [if_pos ⟨h1, h2⟩, h]
theorem jump_not {l : List Int} {m : Int} (h : jumpF l m = none) : jumpR l m = (0, false) := by
  unfold jumpR
  split
  · rw [h]
  · rfl
/-! ### greatest and least -/
def maxK (D : List Int) (k : Nat) : Int := (D.take k).foldl max ((D[0]?).getD 0)
def minK (D : List Int) (k : Nat) : Int := (D.take k).foldl min ((D[0]?).getD 0)
theorem maxK_one {D : List Int} {k : Nat} {x : Int} (h : D[k]? = some x) : maxK D (k + 1) = max (maxK D k) x := by rw [maxK, take_one h, List.foldl_append]; rfl
theorem minK_one {D : List Int} {k : Nat} {x : Int} (h : D[k]? = some x) : minK D (k + 1) = min (minK D k) x := by rw [minK, take_one h, List.foldl_append]; rfl
theorem maxK_0 {D : List Int} {x : Int} (h : D[0]? = some x) : maxK D 0 = x := by simp [maxK, h]
theorem minK_0 {D : List Int} {x : Int} (h : D[0]? = some x) : minK D 0 = x := by simp [minK, h]
theorem maxK_1 {D : List Int} {x : Int} (h : D[0]? = some x) : maxK D 1 = x := by rw [maxK_one h, maxK_0 h]; omega
theorem minK_1 {D : List Int} {x : Int} (h : D[0]? = some x) : minK D 1 = x := by rw [minK_one h, minK_0 h]; omega
theorem maxK_ge {D : List Int} : ∀ k i x, i < k → D[i]? = some x → x ≤ maxK D k ∧ minK D k ≤ x := by
  intro k
  induction k with
  | zero => intro i x h; omega
  | succ k ih =>
    intro i x hi hx
    by_cases e : i = k
    · subst e; rw [maxK_one hx, minK_one hx]; omega
    · obtain ⟨h1, h2⟩ := ih i x (by omega) hx
      cases hk : D[k]? with
      | none =>
        have hlen : D.length ≤ k := List.getElem?_eq_none_iff.1 hk
        have e1 : D.take (k + 1) = D.take k := by rw [List.take_of_length_le (by omega), List.take_of_length_le hlen]
        rw [maxK, minK, e1]; exact ⟨h1, h2⟩
      | some y => rw [maxK_one hk, minK_one hk]; omega
theorem maxK_up {D : List Int} (k : Nat) : maxK D k ≤ maxK D (k + 1) ∧ minK D (k + 1) ≤ minK D k := by
  cases hk : D[k]? with
  | none =>
    have hlen : D.length ≤ k := List.getElem?_eq_none_iff.1 hk
    have e1 : D.take (k + 1) = D.take k := by rw [List.take_of_length_le (by omega), List.take_of_length_le hlen]
    rw [maxK, minK, maxK, minK, e1]; exact ⟨Int.le_refl _, Int.le_refl _⟩
  | some y => rw [maxK_one hk, minK_one hk]; omega
theorem maxK_rng {D : List Int} {a b : Int} (h : ∀ (i : Nat) (x : Int), D[i]? = some x → a ≤ x ∧ x ≤ b) (h0 : 0 < D.length) : ∀ k, a ≤ maxK D k ∧ maxK D k ≤ b ∧ a ≤ minK D k ∧ minK D k ≤ b ∧ minK D k ≤ maxK D k := by
  have hx : D[0]? = some (D[0]'h0) := List.getElem?_eq_getElem h0
  have := h 0 _ hx
  intro k
  induction k with
  | zero => rw [maxK_0 hx, minK_0 hx]; omega
  | succ k ih =>
    cases hk : D[k]? with
    | none =>
      have hlen : D.length ≤ k := List.getElem?_eq_none_iff.1 hk
      have e1 : D.take (k + 1) = D.take k := by rw [List.take_of_length_le (by omega), List.take_of_length_le hlen]
      rw [maxK, minK] at *
      rw [e1]; exact ih
    | some y =>
      have := h k y hk
      rw [maxK_one hk, minK_one hk]; omega
/-! ### calm runs -/
def sprd (l : List Int) (i j : Nat) : Int := maxK (l.drop i) j - minK (l.drop i) j
theorem sprd_mono (l : List Int) (i : Nat) {j k : Nat} (h : j ≤ k) : sprd l i j ≤ sprd l i k := by
  induction k with
  | zero => obtain rfl : j = 0 := by omega
            exact Int.le_refl _
  | succ k ih =>
    by_cases e : j = k + 1
    · subst e; exact Int.le_refl _
    · have := ih (by omega)
      have := maxK_up (D := l.drop i) k
      unfold sprd at *
      omega
def cnK (l : List Int) (m : Int) (i : Nat) : Nat → Nat
  | 0 => 0
  | j + 1 => if sprd l i (j + 1) ≤ m then j + 1 else cnK l m i j
theorem cnK_yes {l : List Int} {m : Int} {i j : Nat} (h : sprd l i (j + 1) ≤ m) : cnK l m i (j + 1) = j + 1 := if_pos h
theorem cnK_no {l : List Int} {m : Int} {i j : Nat} (h : ¬ sprd l i (j + 1) ≤ m) : cnK l m i (j + 1) = cnK l m i j := if_neg h
theorem cnK_le (l : List Int) (m : Int) (i : Nat) : ∀ j, cnK l m i j ≤ j := by
  intro j
  induction j with
  | zero => exact Nat.le_refl _
  | succ j ih => rw [cnK]; split <;> omega
theorem cnK_stop {l : List Int} {m : Int} {i n : Nat} (hn : cnK l m i n = n) (h : ¬ sprd l i (n + 1) ≤ m) : ∀ j, n ≤ j → cnK l m i j = n := by
  intro j
  induction j with
  | zero => intro h; obtain rfl : n = 0 := by omega
            exact hn
  | succ j ih =>
    intro hj
    by_cases e : n = j + 1
    · subst e; exact hn
    · rw [cnK_no, ih (by omega)]
      intro hs
      exact h (Int.le_trans (sprd_mono l i (by omega)) hs)
theorem cnK_spr {l : List Int} {m : Int} {i : Nat} : ∀ j, 0 < cnK l m i j → sprd l i (cnK l m i j) ≤ m := by
  intro j
  induction j with
  | zero => intro h; simp [cnK] at h
  | succ j ih =>
    intro h
    by_cases hs : sprd l i (j + 1) ≤ m
    · rw [cnK_yes hs]; exact hs
    · rw [cnK_no hs] at h ⊢; exact ih h
theorem cnK_ge {l : List Int} {m : Int} {i n : Nat} (h1 : 1 ≤ n) (h : sprd l i n ≤ m) : ∀ j, n ≤ j → n ≤ cnK l m i j := by
  intro j
  induction j with
  | zero => intro h; omega
  | succ j ih =>
    intro hj
    by_cases hs : sprd l i (j + 1) ≤ m
    · rw [cnK_yes hs]; exact hj
    · rw [cnK_no hs]
      by_cases e : n = j + 1
      · subst e; exact absurd h hs
      · exact ih (by omega)
def calmN (l : List Int) (m : Int) (i : Nat) : Nat := cnK l m i (l.length - i)
theorem calmN_le (l : List Int) (m : Int) (i : Nat) : calmN l m i ≤ l.length - i := cnK_le l m i _
/-- Where the longest run begins and how long it is, among the first k starts. -/
def bstK (l : List Int) (m : Int) : Nat → Nat × Nat
  | 0 => (0, 0)
  | k + 1 => if (bstK l m k).2 < calmN l m k then (k, calmN l m k) else bstK l m k
theorem bstK_yes {l : List Int} {m : Int} {k : Nat} (h : (bstK l m k).2 < calmN l m k) : bstK l m (k + 1) = (k, calmN l m k) := if_pos h
theorem bstK_no {l : List Int} {m : Int} {k : Nat} (h : ¬ (bstK l m k).2 < calmN l m k) : bstK l m (k + 1) = bstK l m k := if_neg h
theorem bstK_ge {l : List Int} {m : Int} {i : Nat} : ∀ k, i < k → calmN l m i ≤ (bstK l m k).2 := by
  intro k
  induction k with
  | zero => intro h; omega
  | succ k ih =>
    intro hk
    by_cases h : (bstK l m k).2 < calmN l m k
    · rw [bstK_yes h]
      by_cases e : i = k
      · subst e; exact Nat.le_refl _
      · have := ih (by omega); simp only; omega
    · rw [bstK_no h]
      by_cases e : i = k
      · subst e; omega
      · exact ih (by omega)
theorem bstK_is {l : List Int} {m : Int} : ∀ k, ((bstK l m k).2 = 0 ∧ (bstK l m k).1 = 0) ∨ ((bstK l m k).1 < k ∧ (bstK l m k).2 = calmN l m (bstK l m k).1) := by
  intro k
  induction k with
  | zero => exact .inl ⟨rfl, rfl⟩
  | succ k ih =>
    by_cases h : (bstK l m k).2 < calmN l m k
    · rw [bstK_yes h]; exact .inr ⟨Nat.lt_succ_self _, rfl⟩
    · rw [bstK_no h]
      rcases ih with h1 | ⟨h1, h2⟩
      · exact .inl h1
      · exact .inr ⟨by omega, h2⟩
theorem bstK_rng (l : List Int) (m : Int) {k : Nat} (hk : k ≤ l.length) : (bstK l m k).1 + (bstK l m k).2 ≤ l.length := by
  rcases bstK_is (l := l) (m := m) k with ⟨h1, h2⟩ | ⟨h1, h2⟩
  · omega
  · have := calmN_le l m (bstK l m k).1
    omega
def longR (l : List Int) (m : Int) : (Int × Int) × Bool := if serOk l = true ∧ 0 < l.length ∧ gauge m = true then ((((bstK l m l.length).1 : Int), ((bstK l m l.length).2 : Int)), true) else ((0, 0), false)
theorem long_yes {l : List Int} {m : Int} (h1 : serOk l = true) (h2 : 0 < l.length) (h3 : inB m 0 2000 = true) : longR l m = ((((bstK l m l.length).1 : Int), ((bstK l m l.length).2 : Int)), true) := if_pos ⟨h1, h2, h3⟩
theorem long_no {l : List Int} {m : Int} (h : serOk l = false ∨ l.length = 0 ∨ inB m 0 2000 = false) : longR l m = ((0, 0), false) := by
  unfold longR
  rw [if_neg]
  rintro ⟨h1, h2, h3⟩
  rcases h with h | h | h
  · rw [h] at h1; cases h1
  · omega
  · have : gauge m = inB m 0 2000 := rfl
    rw [this, h] at h3; cases h3
/-! ### stuck -/
def sameEnd (l : List Int) (n : Nat) : Prop := ∀ i x y, l.length - n ≤ i → l[i]? = some x → l[l.length - 1]? = some y → x = y
def stuckB (l : List Int) (n : Nat) : Bool := decide (n ≤ l.length) && (l.drop (l.length - n)).all fun x => decide (x = (l[l.length - 1]?).getD 0)
def stuckR (l : List Int) (n : Int) : Bool × Bool := if serOk l = true ∧ inB n 2 20 = true then (stuckB l n.toNat, true) else (false, false)
theorem stuck_no {l : List Int} {n : Int} (h : serOk l = false ∨ inB n 2 20 = false) : stuckR l n = (false, false) := by
  unfold stuckR
  rw [if_neg]
  rintro ⟨h1, h2⟩
  rcases h with h | h
  · rw [h] at h1; cases h1
  · rw [h] at h2; cases h2
theorem stuck_yes {l : List Int} {n : Int} (h1 : serOk l = true) (h2 : inB n 2 20 = true) : stuckR l n = (stuckB l n.toNat, true) := if_pos ⟨h1, h2⟩
theorem stuck_short {l : List Int} {n : Nat} (h : l.length < n) : stuckB l n = false := by
  unfold stuckB
  rw [decide_eq_false (by omega)]; rfl
theorem drop_at {l : List Int} {k i : Nat} : (l.drop k)[i]? = l[k + i]? := List.getElem?_drop
/-- All of the last n are the same if the greatest is the least. -/
theorem stuck_spr {l : List Int} {n : Nat} (hn : 1 ≤ n) (h : n ≤ l.length) : stuckB l n = decide (maxK (l.drop (l.length - n)) n = minK (l.drop (l.length - n)) n) := by
  have hlast : l[l.length - 1]? = some (l[l.length - 1]'(by omega)) := List.getElem?_eq_getElem (by omega)
  generalize l[l.length - 1]'(by omega) = y at hlast
  have hy : (l.drop (l.length - n))[n - 1]? = some y := by rw [drop_at, ← hlast]; congr 1; omega
  have hg := maxK_ge n (n - 1) y (by omega) hy
  unfold stuckB
  rw [decide_eq_true h, Bool.true_and, hlast, Bool.eq_iff_iff, decide_eq_true_eq, List.all_eq_true]
  simp only [Option.getD_some, decide_eq_true_eq]
  constructor
  · intro hall
    have := maxK_rng (D := l.drop (l.length - n)) (a := y) (b := y) (fun i x hx => by
      have := hall x (List.mem_of_getElem? hx); omega) (by rw [List.length_drop]; omega) n
    omega
  · intro he x hx
    obtain ⟨i, hi, e⟩ := List.getElem_of_mem hx
    have hx' : (l.drop (l.length - n))[i]? = some x := by rw [List.getElem?_eq_getElem hi, e]
    have hil : i < n := by rw [List.length_drop] at hi; omega
    have := maxK_ge n i x hil hx'
    omega
theorem stuck_not {l : List Int} {n i : Nat} {x y : Int} (hi : l.length - n ≤ i) (hx : l[i]? = some x) (hy : l[l.length - 1]? = some y) (h : ¬ x = y) : stuckB l n = false := by
  unfold stuckB
  rw [Bool.and_eq_false_iff]
  right
  rw [List.all_eq_false]
  refine ⟨x, ?_, by rw [hy]; simpa using h⟩
  have : (l.drop (l.length - n))[i - (l.length - n)]? = some x := by rw [drop_at, ← hx]; congr 1; omega
  exact List.mem_of_getElem? this
theorem stuck_all {l : List Int} {n : Nat} (h : n ≤ l.length) {y : Int} (hy : l[l.length - 1]? = some y) (hall : ∀ i x, l.length - n ≤ i → l[i]? = some x → x = y) : stuckB l n = true := by
  unfold stuckB
  rw [decide_eq_true h, Bool.true_and, hy, List.all_eq_true]
  intro x hx
  obtain ⟨i, hi, e⟩ := List.getElem_of_mem hx
  have hx' : (l.drop (l.length - n))[i]? = some x := by rw [List.getElem?_eq_getElem hi, e]
  rw [drop_at] at hx'
  simp [hall _ _ (by omega) hx']
/-! ### what the law wants -/
theorem long_pos {l : List Int} {m : Int} (h : (longR l m).2 = true) : 1 ≤ (bstK l m l.length).2 ∧ (bstK l m l.length).1 + (bstK l m l.length).2 ≤ l.length ∧ sprd l (bstK l m l.length).1 (bstK l m l.length).2 ≤ m ∧ longR l m = ((((bstK l m l.length).1 : Int), ((bstK l m l.length).2 : Int)), true) := by
  by_cases hc : serOk l = true ∧ 0 < l.length ∧ gauge m = true
  · have hm := inB_iff.1 hc.2.2
    have hx : (l.drop 0)[0]? = some (l[0]'hc.2.1) := List.getElem?_eq_getElem hc.2.1
    have h0 : 1 ≤ calmN l m 0 := cnK_ge (Nat.le_refl _) (by rw [sprd, maxK_1 hx, minK_1 hx]; omega) _ (by omega)
    have h1 := bstK_ge (l := l) (m := m) l.length hc.2.1
    have h2 := bstK_rng l m (Nat.le_refl l.length)
    refine ⟨by omega, h2, ?_, if_pos hc⟩
    rcases bstK_is (l := l) (m := m) l.length with ⟨h3, _⟩ | ⟨_, h3⟩
    · omega
    · have := cnK_spr (l := l) (m := m) (i := (bstK l m l.length).1) (l.length - (bstK l m l.length).1) (by rw [← calmN, ← h3]; omega)
      rw [← calmN, ← h3] at this
      exact this
  · rw [longR, if_neg hc] at h; cases h
theorem calm_still {l : List Int} {m : Int} {i n : Nat} (h : sprd l i n ≤ m) : jumpR ((l.drop i).take n) m = (0, false) := by
  apply jump_not
  apply jump_none
  intro j h1 hj
  rw [List.length_take] at hj
  have hjn : j < n := by omega
  have hx : (l.drop i)[j]? = some ((l.drop i)[j]'(by omega)) := List.getElem?_eq_getElem (by omega)
  have hy : (l.drop i)[j - 1]? = some ((l.drop i)[j - 1]'(by omega)) := List.getElem?_eq_getElem (by omega)
  have g1 := maxK_ge n j _ hjn hx
  have g2 := maxK_ge n (j - 1) _ (by omega) hy
  rw [far_at (by rw [List.getElem?_take, if_pos hjn]; exact hx) (by rw [List.getElem?_take, if_pos (by omega)]; exact hy)]
  unfold sprd at h
  unfold farZ
  omega
theorem jump_still {l : List Int} {m : Int} (h : (jumpR l m).2 = true) : ∃ i : Nat, (jumpR l m).1 = (i : Int) ∧ i < l.length ∧ jumpR (l.take i) m = (0, false) := by
  unfold jumpR at h ⊢
  split at h
  · rename_i hc
    rw [if_pos hc]
    cases hj : jumpF l m with
    | none => rw [hj] at h; cases h
    | some i =>
      obtain ⟨h1, h2, h3, h4⟩ := jump_first hj
      refine ⟨i, rfl, h2, ?_⟩
      have : jumpR (l.take i) m = (0, false) := by
        apply jump_not
        apply jump_none
        intro j hj1 hj2
        rw [List.length_take] at hj2
        have := h4 j hj1 (by omega)
        unfold farAt at this ⊢
        rwa [List.getElem?_take, List.getElem?_take, if_pos (by omega), if_pos (by omega)]
      exact this
  · cases h
theorem stuck_calm {l : List Int} {n : Int} (h : (stuckR l n).1 = true) : (longR l 0).2 = true ∧ n ≤ (longR l 0).1.2 := by
  unfold stuckR at h
  split at h
  · rename_i hc
    have hn := inB_iff.1 hc.2
    simp only at h
    have hle : n.toNat ≤ l.length := by
      by_cases hl : n.toNat ≤ l.length
      · exact hl
      · rw [stuck_short (by omega)] at h; cases h
    rw [stuck_spr (by omega) hle, decide_eq_true_eq] at h
    have hs : sprd l (l.length - n.toNat) n.toNat ≤ 0 := by unfold sprd; omega
    have h1 : n.toNat ≤ calmN l 0 (l.length - n.toNat) := cnK_ge (by omega) hs _ (by omega)
    have h2 := bstK_ge (l := l) (m := 0) (i := l.length - n.toNat) l.length (by omega)
    rw [long_yes hc.1 (by omega) rfl]
    exact ⟨rfl, by simp only; omega⟩
  · cases h
end Go.Proofs.Ytmnbbnboaokgjaa
