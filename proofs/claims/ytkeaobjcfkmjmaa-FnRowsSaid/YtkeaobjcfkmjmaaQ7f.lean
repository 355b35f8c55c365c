/- Plain laws on rows of cargo: the unsafe pairs. No program in sight. -/
import Derived.Test.YtkeaobjcfkmjmaaQt
import Derived.Test.YtkeaobjcfkmjmaaQ7e
namespace Go.Proofs.Ytkeaobjcfkmjmaa
def pLt (p q : Int × Int) : Bool := decide (p.1 < q.1) || (decide (p.1 = q.1) && decide (p.2 < q.2))
theorem pLt_as (x y : Int × Int) (h : pLt x y = true) : pLt y x = false := by
  obtain ⟨a, b⟩ := x; obtain ⟨c, d⟩ := y
  simp only [pLt, Bool.or_eq_true, Bool.and_eq_true, decide_eq_true_eq, Bool.or_eq_false_iff, Bool.and_eq_false_iff, decide_eq_false_iff_not] at *
  omega
theorem pLt_nt (x y z : Int × Int) (h : pLt y x = false) (g : pLt z y = false) : pLt z x = false := by
  obtain ⟨a, b⟩ := x; obtain ⟨c, d⟩ := y; obtain ⟨e, f⟩ := z
  simp only [pLt, Bool.or_eq_false_iff, Bool.and_eq_false_iff, decide_eq_false_iff_not] at *
  omega
theorem pLt_eq {x y : Int × Int} (h : pLt x y = false) (g : pLt y x = false) : x = y := by
  obtain ⟨a, b⟩ := x; obtain ⟨c, d⟩ := y
  simp only [pLt, Bool.or_eq_false_iff, Bool.and_eq_false_iff, decide_eq_false_iff_not] at *
  simp only [Prod.mk.injEq]; omega
/-- Put in ahead of the first that isn't less. -/
theorem put_sorted {o : List (Int × Int)} {x : Int × Int} {p : Nat} (h : o.Pairwise (Asc pLt)) (hlo : ∀ i y, i < p → o[i]? = some y → pLt y x = true) (hhi : ∀ y, o[p]? = some y → pLt y x = false) :
    ((o.take p ++ [x]) ++ o.drop p).Pairwise (Asc pLt) := by
  have hd : ∀ z ∈ o.drop p, pLt z x = false := by
    intro z hz
    obtain ⟨j, hj⟩ := List.mem_iff_getElem?.1 hz
    rw [List.getElem?_drop] at hj
    by_cases h0 : j = 0
    · subst h0; exact hhi z hj
    · have hlt := (List.getElem?_eq_some_iff.1 hj).1
      have hy : o[p]? = some o[p] := List.getElem?_eq_getElem (by omega)
      have h1 := hhi _ hy
      have h2 := (List.pairwise_iff_getElem.1 h) p (p + j) (by omega) hlt (by omega)
      have e : o[p + j] = z := by have := List.getElem?_eq_getElem hlt; rw [this] at hj; exact Option.some.inj hj
      rw [e] at h2
      exact pLt_nt x _ z h1 h2
  have ht : ∀ z ∈ o.take p, pLt z x = true := by
    intro z hz
    obtain ⟨j, hj⟩ := List.mem_iff_getElem?.1 hz
    rw [List.getElem?_take] at hj
    split at hj
    · exact hlo j z ‹_› hj
    · cases hj
  rw [List.append_assoc, List.pairwise_append]
  refine ⟨h.sublist (List.take_sublist ..), ?_, ?_⟩
  · rw [List.singleton_append, List.pairwise_cons]
    exact ⟨fun z hz => hd z hz, h.sublist (List.drop_sublist ..)⟩
  · intro a ha b hb
    rw [List.singleton_append, List.mem_cons] at hb
    rcases hb with rfl | hb
    · exact pLt_as _ _ (ht a ha)
    · have := h
      rw [← List.take_append_drop p o, List.pairwise_append] at this
      exact this.2.2 a ha b hb
theorem put_perm (o : List (Int × Int)) (x : Int × Int) (p : Nat) : ((o.take p ++ [x]) ++ o.drop p).Perm (o ++ [x]) := by
  rw [List.append_assoc]
  show (o.take p ++ x :: o.drop p).Perm _
  refine List.Perm.trans List.perm_middle ?_
  rw [List.take_append_drop]
  exact (List.perm_append_singleton x o).symm
/-! ### the pairs -/
def unsafeB (a b : Cargo) (x y : Int) : Bool := decide (y - x - a.Length < gapZ a.Cones b.Cones) && decide (x - y - b.Length < gapZ a.Cones b.Cones)
def prS (l : List Cargo) (cs : List Int) (i k : Nat) : Option (Int × Int) := match l[i]?, l[k]?, cs[i]?, cs[k]? with
  | some a, some b, some x, some y => if a.Id < b.Id ∧ unsafeB a b x y = true then some (a.Id, b.Id) else none
  | _, _, _, _ => none
def prP (l : List Cargo) (cs : List Int) (i k : Nat) : Option (Int × Int) := match l[i]?, l[k]?, cs[i]?, cs[k]? with
  | some a, some b, some x, some y => if i < k ∧ unsafeB a b x y = true then some (min a.Id b.Id, max a.Id b.Id) else none
  | _, _, _, _ => none
def rowOf (f : Nat → Nat → Option (Int × Int)) (i k : Nat) : List (Int × Int) := (List.range k).filterMap (f i)
def pairsTo (f : Nat → Nat → Option (Int × Int)) (n i k : Nat) : List (Int × Int) := (List.range i).flatMap (fun j => rowOf f j n) ++ rowOf f i k
section
variable (f : Nat → Nat → Option (Int × Int)) (n i k : Nat)
theorem pairs_zero : pairsTo f n 0 0 = [] := rfl
theorem pairs_next : pairsTo f n (i + 1) 0 = pairsTo f n i n := by
  simp [pairsTo, rowOf, List.range_succ]
theorem pairs_some {p : Int × Int} (h : f i k = some p) : pairsTo f n i (k + 1) = pairsTo f n i k ++ [p] := by
  simp [pairsTo, rowOf, List.range_succ, h]
theorem pairs_none (h : f i k = none) : pairsTo f n i (k + 1) = pairsTo f n i k := by
  simp [pairsTo, rowOf, List.range_succ, h]
theorem pairs_mem {p : Int × Int} : p ∈ pairsTo f n n 0 ↔ ∃ i k, i < n ∧ k < n ∧ f i k = some p := by
  simp only [pairsTo, rowOf, List.range_zero, List.filterMap_nil, List.append_nil, List.mem_flatMap, List.mem_range, List.mem_filterMap]
  constructor
  · rintro ⟨i, hi, k, hk, h⟩; exact ⟨i, k, hi, hk, h⟩
  · rintro ⟨i, k, hi, hk, h⟩; exact ⟨i, hi, k, hk, h⟩
theorem pairs_nodup (h : ∀ i k i' k' p, f i k = some p → f i' k' = some p → i = i' ∧ k = k') : (pairsTo f n n 0).Nodup := by
  have hr : ∀ m, (List.range m).Pairwise (· < ·) := fun m => List.pairwise_lt_range
  simp only [pairsTo, rowOf, List.range_zero, List.filterMap_nil, List.append_nil]
  unfold List.Nodup
  rw [List.pairwise_flatMap]
  refine ⟨fun i _ => ?_, (hr n).imp fun {i j} hij x hx y hy e => ?_⟩
  · rw [List.pairwise_filterMap]
    refine (hr n).imp fun {a b} hab x hx y hy e => ?_
    subst e
    have := (h i a i b x hx hy).2
    omega
  · subst e
    rw [List.mem_filterMap] at hx hy
    obtain ⟨a, _, ha⟩ := hx
    obtain ⟨b, _, hb⟩ := hy
    have := (h i a j b x ha hb).1
    omega
end
theorem unsafe_swap (a b : Cargo) (x y : Int) : unsafeB b a y x = unsafeB a b x y := by
  have hg : gapZ b.Cones a.Cones = gapZ a.Cones b.Cones := by
    simp only [gapZ, Int.add_comm b.Cones a.Cones, or_comm]
  simp only [unsafeB, hg, Bool.and_comm]
section
variable {l : List Cargo} {cs : List Int} {i k : Nat} {p : Int × Int}
theorem prS_iff : prS l cs i k = some p ↔ ∃ a b x y, l[i]? = some a ∧ l[k]? = some b ∧ cs[i]? = some x ∧ cs[k]? = some y ∧ a.Id < b.Id ∧ unsafeB a b x y = true ∧ p = (a.Id, b.Id) := by
  unfold prS
  constructor
  · intro h
    split at h
    · rename_i a b x y ha hb hx hy
      split at h
      · rename_i hc; exact ⟨a, b, x, y, ha, hb, hx, hy, hc.1, hc.2, (Option.some.inj h).symm⟩
      · cases h
    · cases h
  · rintro ⟨a, b, x, y, ha, hb, hx, hy, h1, h2, rfl⟩
    rw [ha, hb, hx, hy]; simp [h1, h2]
theorem prP_iff : prP l cs i k = some p ↔ ∃ a b x y, l[i]? = some a ∧ l[k]? = some b ∧ cs[i]? = some x ∧ cs[k]? = some y ∧ i < k ∧ unsafeB a b x y = true ∧ p = (min a.Id b.Id, max a.Id b.Id) := by
  unfold prP
  constructor
  · intro h
    split at h
    · rename_i a b x y ha hb hx hy
      split at h
      · rename_i hc; exact ⟨a, b, x, y, ha, hb, hx, hy, hc.1, hc.2, (Option.some.inj h).symm⟩
      · cases h
    · cases h
  · rintro ⟨a, b, x, y, ha, hb, hx, hy, h1, h2, rfl⟩
    rw [ha, hb, hx, hy]; simp [h1, h2]
end
theorem nodup_perm {α : Type} [DecidableEq α] : ∀ {l m : List α}, l.Nodup → m.Nodup → (∀ x, x ∈ l ↔ x ∈ m) → l.Perm m := by
  intro l m h1 h2 h
  rw [List.perm_iff_count]
  intro a
  rw [h1.count, h2.count]
  simp only [h a]
/-- The reference finds the same pairs as the program. -/
theorem pairs_same {l : List Cargo} {cs : List Int} (hok : cargoOk l = true) : (pairsTo (prS l cs) l.length l.length 0).Perm (pairsTo (prP l cs) l.length l.length 0) := by
  have lt : ∀ {i : Nat} {a : Cargo}, l[i]? = some a → i < l.length := fun h => (List.getElem?_eq_some_iff.1 h).1
  refine nodup_perm (pairs_nodup _ _ ?_) (pairs_nodup _ _ ?_) ?_
  · intro i k i' k' p h g
    obtain ⟨a, b, x, y, ha, hb, hx, hy, h1, h2, rfl⟩ := prS_iff.1 h
    obtain ⟨c, d, u, v, hc, hd, hu, hv, h3, h4, e⟩ := prS_iff.1 g
    simp only [Prod.mk.injEq] at e
    exact ⟨ids_apart hok ha hc e.1, ids_apart hok hb hd e.2⟩
  · intro i k i' k' p h g
    obtain ⟨a, b, x, y, ha, hb, hx, hy, h1, h2, rfl⟩ := prP_iff.1 h
    obtain ⟨c, d, u, v, hc, hd, hu, hv, h3, h4, e⟩ := prP_iff.1 g
    simp only [Prod.mk.injEq] at e
    by_cases e1 : a.Id = c.Id
    · exact ⟨ids_apart hok ha hc e1, ids_apart hok hb hd (by omega)⟩
    · have q1 := ids_apart hok ha hd (by omega)
      have q2 := ids_apart hok hb hc (by omega)
      omega
  · intro p
    rw [pairs_mem, pairs_mem]
    constructor
    · rintro ⟨i, k, hi, hk, h⟩
      obtain ⟨a, b, x, y, ha, hb, hx, hy, h1, h2, rfl⟩ := prS_iff.1 h
      have hne : i ≠ k := fun e => by subst e; rw [ha] at hb; obtain rfl := Option.some.inj hb; omega
      by_cases hik : i < k
      · exact ⟨i, k, hi, hk, prP_iff.2 ⟨a, b, x, y, ha, hb, hx, hy, hik, h2, by rw [Int.min_def, Int.max_def, if_pos (by omega), if_pos (by omega)]⟩⟩
      · exact ⟨k, i, hk, hi, prP_iff.2 ⟨b, a, y, x, hb, ha, hy, hx, by omega, by rw [unsafe_swap]; exact h2, by rw [Int.min_def, Int.max_def, if_neg (by omega), if_neg (by omega)]⟩⟩
    · rintro ⟨i, k, hi, hk, h⟩
      obtain ⟨a, b, x, y, ha, hb, hx, hy, h1, h2, rfl⟩ := prP_iff.1 h
      have hne : a.Id ≠ b.Id := fun e => by have := ids_apart hok ha hb e; omega
      by_cases hab : a.Id < b.Id
      · exact ⟨i, k, hi, hk, prS_iff.2 ⟨a, b, x, y, ha, hb, hx, hy, hab, h2, by rw [Int.min_def, Int.max_def, if_pos (by omega), if_pos (by omega)]⟩⟩
      · exact ⟨k, i, hk, hi, prS_iff.2 ⟨b, a, y, x, hb, ha, hy, hx, by omega, by rw [unsafe_swap]; exact h2, by rw [Int.min_def, Int.max_def, if_neg (by omega), if_neg (by omega)]⟩⟩
/-- Both end with the same table. -/
theorem table_same {l : List Cargo} {cs : List Int} (hok : cargoOk l = true) {S T : List (Int × Int)} (h1 : S.Perm (pairsTo (prS l cs) l.length l.length 0)) (h2 : S.Pairwise (Asc pLt)) (h3 : T.Perm (pairsTo (prP l cs) l.length l.length 0)) (h4 : T.Pairwise (Asc pLt)) : S = T :=
  asc_unique S T ((h1.trans (pairs_same hok)).trans h3.symm) h2 h4 fun a _ b _ => pLt_eq
theorem pairsP_start (l : List Cargo) (cs : List Int) (n j : Nat) : pairsTo (prP l cs) n j (j + 1) = pairsTo (prP l cs) n j 0 := by
  have : rowOf (prP l cs) j (j + 1) = [] := by
    rw [rowOf, List.filterMap_eq_nil_iff]
    intro k hk
    rw [List.mem_range] at hk
    cases e : prP l cs j k with
    | none => rfl
    | some p => obtain ⟨_, _, _, _, _, _, _, _, h, _⟩ := prP_iff.1 e; omega
  rw [pairsTo, this]; rfl
end Go.Proofs.Ytkeaobjcfkmjmaa
