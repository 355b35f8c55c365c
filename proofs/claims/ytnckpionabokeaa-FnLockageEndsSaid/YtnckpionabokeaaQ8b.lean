/- Plain laws on the waits of an order. No program in sight. -/
import Derived.Test.YtnckpionabokeaaC8e
namespace Go.Proofs.Ytnckpionabokeaa
open Go.RowKit
/-- The waits that the first k lockages of an order give. -/
def waitsK (l : List Arrival) (o ts : List Int) : Nat → List Int
  | 0 => List.replicate l.length 0
  | k + 1 => match o[k]?, ts[k]? with
    | some x, some t => (waitsK l o ts k).set x.toNat (t - (arrAtI l x).Minute)
    | _, _ => waitsK l o ts k
theorem waitsK_len (l : List Arrival) (o ts : List Int) : ∀ k, (waitsK l o ts k).length = l.length := by
  intro k
  induction k with
  | zero => simp [waitsK]
  | succ k ih =>
    simp only [waitsK]
    split
    · simp [ih]
    · exact ih
theorem waitsK_one {l : List Arrival} {o ts : List Int} {k i : Nat} {t : Int} {a : Arrival} (hx : o[k]? = some (i : Int)) (ht : ts[k]? = some t) (ha : l[i]? = some a) : waitsK l o ts (k + 1) = (waitsK l o ts k).set i (t - a.Minute) := by
  simp [waitsK, hx, ht, arrAtI_nat ha]
/-- What stays: the place of i is written once. -/
theorem waits_keep {l : List Arrival} {o ts : List Int} (hl : ts.length = o.length) (hr : ∀ (k : Nat) (x : Int), o[k]? = some x → 0 ≤ x ∧ x < l.length) (hf : upTo (fresh l.length o) o o.length = true) {p i : Nat} (hp : o[p]? = some (i : Int)) {v : Int} : ∀ k, p < k → k ≤ o.length → (waitsK l o ts (p + 1))[i]? = some v → (waitsK l o ts k)[i]? = some v := by
  intro k
  induction k with
  | zero => intro h; omega
  | succ k ih =>
    intro h1 h2 hv
    by_cases hpk : k = p
    · subst hpk; exact hv
    · have h3 := ih (by omega) (by omega) hv
      have hx : o[k]? = some (o[k]'(by omega)) := List.getElem?_eq_getElem (by omega)
      generalize o[k]'(by omega) = x at hx
      have ht : ts[k]? = some (ts[k]'(by omega)) := List.getElem?_eq_getElem (by omega)
      generalize ts[k]'(by omega) = t at ht
      obtain ⟨x0, x1⟩ := hr k x hx
      obtain ⟨j, rfl⟩ := Int.eq_ofNat_of_zero_le x0
      have ha : l[j]? = some (l[j]'(by omega)) := List.getElem?_eq_getElem (by omega)
      rw [waitsK_one hx ht ha]
      have hne : j ≠ i := by
        intro e
        subst e
        have := upTo_at hf (by omega : k < o.length) hx
        simp only [fresh, Bool.and_eq_true, Bool.not_eq_true', hasB_no] at this
        exact this.2 (List.mem_take_iff_getElem.2 ⟨p, by have := (List.getElem?_eq_some_iff.1 hp).1; omega, (List.getElem?_eq_some_iff.1 hp).2⟩)
      rw [List.getElem?_set_ne hne]
      exact h3
def waits (l : List Arrival) (o ts : List Int) : List Int := waitsK l o ts o.length
theorem waits_at {l : List Arrival} {o ts : List Int} (hl : ts.length = o.length) (hr : ∀ (k : Nat) (x : Int), o[k]? = some x → 0 ≤ x ∧ x < l.length) (hf : upTo (fresh l.length o) o o.length = true) {p i : Nat} (hp : o[p]? = some (i : Int)) {t : Int} (ht : ts[p]? = some t) {a : Arrival} (ha : l[i]? = some a) : (waits l o ts)[i]? = some (t - a.Minute) := by
  have hpl := (List.getElem?_eq_some_iff.1 hp).1
  refine waits_keep hl hr hf hp _ hpl (Nat.le_refl _) ?_
  rw [waitsK_one hp ht ha, List.getElem?_set_self (by rw [waitsK_len]; exact (List.getElem?_eq_some_iff.1 ha).1)]
/-- The greatest of the first k + 1 numbers. -/
def mxK (W : List Int) : Nat → Int
  | 0 => outW W 0
  | k + 1 => max (mxK W k) (outW W (k + 1))
where outW (W : List Int) (i : Nat) : Int := (W[i]?).getD 0
theorem mxK_one {W : List Int} {k : Nat} {x : Int} (h : W[k]? = some x) (hk : 1 ≤ k) : mxK W k = max (mxK W (k - 1)) x := by
  obtain ⟨j, rfl⟩ : ∃ j, k = j + 1 := ⟨k - 1, by omega⟩
  simp [mxK, mxK.outW, h]
theorem mxK_zero {W : List Int} {x : Int} (h : W[0]? = some x) : mxK W 0 = x := by simp [mxK, mxK.outW, h]
/-- The first greatest one of the first k numbers. -/
def bestW (W : List Int) : Nat → Int × Int
  | 0 => (0, -1)
  | k + 1 => match W[k]? with
    | some x => if (bestW W k).2 < x then (k, x) else bestW W k
    | none => bestW W k
theorem bestW_one {W : List Int} {k : Nat} {x : Int} (h : W[k]? = some x) : bestW W (k + 1) = if (bestW W k).2 < x then ((k : Int), x) else bestW W k := by simp [bestW, h]
theorem best_is {W : List Int} (h0 : ∀ (i : Nat) (x : Int), W[i]? = some x → 0 ≤ x) : ∀ k, k + 1 ≤ W.length → (bestW W (k + 1)).2 = mxK W k ∧ isIdx (W.take (k + 1)) (mxK W k) (bestW W (k + 1)).1 ∧ ∀ (i : Nat) (x : Int), i ≤ k → W[i]? = some x → x ≤ mxK W k := by
  intro k
  induction k with
  | zero =>
    intro hk
    have hx : W[0]? = some (W[0]'(by omega)) := List.getElem?_eq_getElem (by omega)
    generalize W[0]'(by omega) = x at hx
    have := h0 0 x hx
    rw [bestW_one hx, mxK_zero hx, if_pos (by simp only [bestW]; omega)]
    refine ⟨rfl, .inr ⟨0, rfl, by rw [List.getElem?_take, if_pos (by omega)]; exact hx, by rw [hasB_no]; simp⟩, fun i y hi hy => ?_⟩
    have : i = 0 := by omega
    subst this
    rw [hx] at hy
    have := Option.some.inj hy
    omega
  | succ k ih =>
    intro hk
    obtain ⟨ih1, ih2, ih3⟩ := ih (by omega)
    have hx : W[k + 1]? = some (W[k + 1]'(by omega)) := List.getElem?_eq_getElem (by omega)
    generalize W[k + 1]'(by omega) = x at hx
    have hm := mxK_one hx (by omega)
    rw [Nat.add_sub_cancel] at hm
    rw [bestW_one hx]
    by_cases hlt : (bestW W (k + 1)).2 < x
    · rw [if_pos hlt]
      have e : mxK W (k + 1) = x := by rw [hm]; omega
      rw [e]
      refine ⟨rfl, .inr ⟨k + 1, rfl, by rw [List.getElem?_take, if_pos (by omega)]; exact hx, ?_⟩, ?_⟩
      · rw [hasB_no]
        intro hmem
        obtain ⟨i, hi, ei⟩ := List.getElem_of_mem hmem
        have hi2 : i < k + 1 := by simp at hi; omega
        have hwi : W[i]? = some x := by
          have := List.getElem?_eq_getElem hi
          rw [ei, List.getElem?_take, if_pos hi2, List.getElem?_take, if_pos (by omega)] at this
          exact this
        have := ih3 i x (by omega) hwi
        omega
      · intro i y hi hy
        by_cases e2 : i = k + 1
        · subst e2
          rw [hx] at hy
          have := Option.some.inj hy
          omega
        · have := ih3 i y (by omega) hy
          omega
    · rw [if_neg hlt]
      have e : mxK W (k + 1) = mxK W k := by rw [hm]; omega
      rw [e]
      refine ⟨ih1, ?_, ?_⟩
      · rcases ih2 with ⟨h1, h2⟩ | ⟨j, h1, h2, h3⟩
        · exfalso
          have h4 : (bestW W (k + 1)).1 = -1 := h1
          have h5 : ∀ j, 0 ≤ (bestW W j).1 := by
            intro j
            induction j with
            | zero => simp [bestW]
            | succ j ihj =>
              simp only [bestW]
              split
              · split
                · first | (simp; done) | (simp; omega)
                · exact ihj
              · exact ihj
          have := h5 (k + 1)
          omega
        · refine .inr ⟨j, h1, ?_, ?_⟩
          · rw [List.getElem?_take] at h2 ⊢
            split at h2
            · rw [if_pos (by omega)]; exact h2
            · cases h2
          · rw [List.take_take] at h3 ⊢
            have hj : j < k + 1 := by
              rw [List.getElem?_take] at h2
              split at h2
              · assumption
              · cases h2
            rw [Nat.min_eq_left (by omega)] at h3 ⊢
            exact h3
      · intro i y hi hy
        by_cases e2 : i = k + 1
        · subst e2
          rw [hx] at hy
          have := Option.some.inj hy
          omega
        · exact ih3 i y (by omega) hy
theorem isIdx_one {l : List Int} {x i j : Int} (h : isIdx l x i) (g : isIdx l x j) : i = j := by
  rcases h with ⟨rfl, h⟩ | ⟨k, rfl, h1, h2⟩ <;> rcases g with ⟨rfl, g⟩ | ⟨m, rfl, g1, g2⟩
  · rfl
  · rw [has_at g1] at h; cases h
  · rw [has_at h1] at g; cases g
  · rcases Nat.lt_trichotomy k m with hl | hl | hl
    · rw [hasB_no] at g2
      exact absurd (List.mem_take_iff_getElem.2 ⟨k, by have := (List.getElem?_eq_some_iff.1 h1).1; omega, (List.getElem?_eq_some_iff.1 h1).2⟩) g2
    · rw [hl]
    · rw [hasB_no] at h2
      exact absurd (List.mem_take_iff_getElem.2 ⟨m, by have := (List.getElem?_eq_some_iff.1 g1).1; omega, (List.getElem?_eq_some_iff.1 g1).2⟩) h2
def longR (l : List Arrival) (high : Bool) (mi : Int) (o : List Int) : (Int × Int) × Bool :=
  if (implOrd l o = true ∧ inB mi 1 60 = true) ∧ ¬ l.length = 0 then (bestW (waits l o (runT l mi high o).out) l.length, true) else ((0, 0), false)
/-- No begin lies ahead of its vessel's minute. -/
theorem out_late {l : List Arrival} {mi : Int} {high : Bool} {o : List Int} {p i : Nat} {t : Int} {a : Arrival} (hp : o[p]? = some (i : Int)) (ha : l[i]? = some a) : ∀ k, p < k → k ≤ o.length → (∀ j, j ≤ o.length → (runT l mi high (o.take j)).out.length = j) → (runT l mi high (o.take k)).out[p]? = some t → a.Minute ≤ t := by
  intro k
  induction k with
  | zero => intro h; omega
  | succ k ih =>
    intro h1 h2 hlen ht
    have hx : o[k]? = some (o[k]'(by omega)) := List.getElem?_eq_getElem (by omega)
    rw [runT_one hx] at ht
    by_cases hpk : p = k
    · subst hpk
      rw [hp] at hx
      have e := Option.some.inj hx
      rw [← e, arrAtI_nat ha] at ht
      simp only [stepT] at ht
      rw [List.getElem?_append_right (by rw [hlen _ (by omega)]; exact Nat.le_refl _), hlen _ (by omega), Nat.sub_self] at ht
      have := Option.some.inj ht
      omega
    · simp only [stepT] at ht
      rw [List.getElem?_append_left (by rw [hlen _ (by omega)]; omega)] at ht
      exact ih (by omega) (by omega) hlen ht
end Go.Proofs.Ytnckpionabokeaa
