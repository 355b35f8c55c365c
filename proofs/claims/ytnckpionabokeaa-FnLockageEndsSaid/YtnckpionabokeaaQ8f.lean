/- Plain laws on the begins of an order, and on sums over it. No program in sight. -/
import Derived.Test.YtnckpionabokeaaQ8e
namespace Go.Proofs.Ytnckpionabokeaa
open Go.RowKit
/-- When a lockage begins. -/
def begT (mi : Int) (s : Ts) (a : Arrival) : Int := max (if a.Up = s.high then s.free + mi else s.free) a.Minute
theorem stepT_beg (mi : Int) (s : Ts) (a : Arrival) : stepT mi s a = ⟨begT mi s a + mi, a.Up, if a.Up = s.high then s.turns + 1 else s.turns, s.out ++ [begT mi s a]⟩ := rfl
section
variable {l : List Arrival} {high : Bool} {mi : Int} {o : List Int}
/-- The state behind the first k lockages. -/
def stK (l : List Arrival) (mi : Int) (high : Bool) (o : List Int) (k : Nat) : Ts := runT l mi high (o.take k)
theorem stK_zero : stK l mi high o 0 = ⟨0, high, 0, []⟩ := rfl
theorem stK_one {k i : Nat} {a : Arrival} (hx : o[k]? = some (i : Int)) (ha : l[i]? = some a) : stK l mi high o (k + 1) = stepT mi (stK l mi high o k) a := by
  rw [stK, runT_one hx, arrAtI_nat ha]; rfl
theorem stK_all : stK l mi high o o.length = runT l mi high o := by rw [stK, List.take_length]
theorem out_keep (hlen : ∀ j, j ≤ o.length → (stK l mi high o j).out.length = j) {p : Nat} : ∀ k, p < k → k ≤ o.length → (stK l mi high o k).out[p]? = (stK l mi high o (p + 1)).out[p]? := by
  intro k
  induction k with
  | zero => intro h; omega
  | succ k ih =>
    intro h1 h2
    by_cases hpk : p = k
    · subst hpk; rfl
    · have hx : o[k]? = some (o[k]'(by omega)) := List.getElem?_eq_getElem (by omega)
      have e : stK l mi high o (k + 1) = stepT mi (stK l mi high o k) (arrAtI l (o[k]'(by omega))) := runT_one hx
      rw [e, stepT_beg]
      simp only
      rw [List.getElem?_append_left (by rw [hlen k (by omega)]; omega)]
      exact ih (by omega) (by omega)
/-- The k-th vessel of an order, and when its lockage begins. -/
theorem ord_beg (h : implOrd l o = true) (m0 : 1 ≤ mi) (m1 : mi ≤ 60) {k : Nat} (hk : k < o.length) : ∃ (i : Nat) (a : Arrival), o[k]? = some (i : Int) ∧ l[i]? = some a ∧ (runT l mi high o).out[k]? = some (begT mi (stK l mi high o k) a) ∧ stK l mi high o (k + 1) = stepT mi (stK l mi high o k) a := by
  obtain ⟨i, a, t, h1, h2, _, _⟩ := ord_at (high := high) h m0 m1 hk
  have htk := ord_tk (high := high) h m0 m1
  have hs := stK_one (mi := mi) (high := high) h1 h2
  refine ⟨i, a, h1, h2, ?_, hs⟩
  rw [← stK_all, out_keep (fun j hj => (htk j hj).len) o.length hk (Nat.le_refl _), hs, stepT_beg]
  simp only
  have hkl : (stK l mi high o k).out.length = k := (htk k (by omega)).len
  rw [List.getElem?_append_right (by omega), hkl, Nat.sub_self]
  rfl
theorem beg_ge (s : Ts) (a : Arrival) (m0 : 1 ≤ mi) : s.free ≤ begT mi s a ∧ a.Minute ≤ begT mi s a := by
  unfold begT
  split <;> omega
theorem beg_turn {s : Ts} {a : Arrival} (h : a.Up = s.high) : s.free + mi ≤ begT mi s a := by
  unfold begT
  rw [if_pos h]; omega
theorem st_free {k i : Nat} {a : Arrival} (hs : stK l mi high o (k + 1) = stepT mi (stK l mi high o k) a) : (stK l mi high o (k + 1)).free = begT mi (stK l mi high o k) a + mi ∧ (stK l mi high o (k + 1)).high = a.Up := by
  rw [hs, stepT_beg]; exact ⟨rfl, rfl⟩
end
/-! ### sums over an order -/
def sumZ (f : Int → Int) (o : List Int) : Int := (o.map f).sum
theorem sumZ_cons (f : Int → Int) (x : Int) (o : List Int) : sumZ f (x :: o) = f x + sumZ f o := by simp [sumZ]
theorem sumZ_erase (f : Int → Int) : ∀ (S : List Int) (x : Int), x ∈ S → sumZ f S = f x + sumZ f (S.erase x) := by
  intro S
  induction S with
  | nil => intro x h; simp at h
  | cons y S ih =>
    intro x h
    by_cases e : y = x
    · subst e
      rw [List.erase_cons_head, sumZ_cons]
    · rw [List.erase_cons_tail (by simpa using e), sumZ_cons, sumZ_cons]
      have := ih x (by rcases List.mem_cons.1 h with h | h; exact absurd h.symm e; exact h)
      omega
theorem sumZ_same (f : Int → Int) : ∀ (l S : List Int), l.Nodup → (∀ x ∈ l, x ∈ S) → l.length = S.length → sumZ f l = sumZ f S := by
  intro l
  induction l with
  | nil =>
    intro S _ _ h
    have : S = [] := List.eq_nil_of_length_eq_zero (by simpa using h.symm)
    rw [this]
  | cons x l ih =>
    intro S hn hs hl
    have hx : x ∈ S := hs x (by simp)
    have hn' := List.nodup_cons.1 hn
    rw [sumZ_cons, sumZ_erase f S x hx]
    have h2 := ih (S.erase x) hn'.2 (fun y hy => (List.mem_erase_of_ne (fun e => hn'.1 (by rw [← e]; exact hy))).2 (hs y (by simp [hy]))) (by rw [List.length_erase_of_mem hx]; simp at hl; omega)
    omega
theorem fre_nodup {n : Nat} {o : List Int} (h : freO n o = true) : o.Nodup := by
  rw [List.nodup_iff_pairwise_ne, List.pairwise_iff_getElem]
  intro i j hi hj hij e
  have := upTo_at h hj (List.getElem?_eq_getElem hj)
  simp only [fresh, Bool.and_eq_true, Bool.not_eq_true', hasB_no] at this
  exact this.2 (by rw [← e]; exact List.mem_take_iff_getElem.2 ⟨i, by omega, rfl⟩)
theorem fre_mem {n : Nat} {o : List Int} (h : freO n o = true) {x : Int} (hx : x ∈ o) : 0 ≤ x ∧ x < n := by
  obtain ⟨k, hk, e⟩ := List.getElem_of_mem hx
  have := upTo_at h hk (List.getElem?_eq_getElem hk)
  simp only [fresh, Bool.and_eq_true, inB_iff] at this
  omega
/-- 0, 1, .., n - 1 -/
def idsZ (n : Nat) : List Int := (List.range n).map fun (i : Nat) => (i : Int)
theorem idsZ_len (n : Nat) : (idsZ n).length = n := by simp [idsZ]
theorem idsZ_mem {n : Nat} {x : Int} : x ∈ idsZ n ↔ 0 ≤ x ∧ x < n := by
  simp only [idsZ, List.mem_map, List.mem_range]
  constructor
  · rintro ⟨i, hi, rfl⟩; omega
  · rintro ⟨h0, h1⟩; exact ⟨x.toNat, by omega, by omega⟩
theorem sum_fre {n : Nat} {o : List Int} (h : freO n o = true) (hl : o.length = n) (f : Int → Int) : sumZ f o = sumZ f (idsZ n) :=
  sumZ_same f o (idsZ n) (fre_nodup h) (fun x hx => idsZ_mem.2 (fre_mem h hx)) (by rw [idsZ_len, hl])
theorem idsZ_snoc (n : Nat) : idsZ (n + 1) = idsZ n ++ [(n : Int)] := by simp [idsZ, List.range_succ]
theorem sumZ_app (f : Int → Int) (a b : List Int) : sumZ f (a ++ b) = sumZ f a + sumZ f b := by simp [sumZ]
/-- A sum over a list by its places. -/
def sumK (f : Nat → Int) : Nat → Int
  | 0 => 0
  | k + 1 => sumK f k + f k
theorem sumK_list (f : Int → Int) (g : Nat → Int) (o : List Int) (h : ∀ k x, o[k]? = some x → g k = f x) : ∀ k, k ≤ o.length → sumK g k = sumZ f (o.take k) := by
  intro k
  induction k with
  | zero => intro _; simp [sumK, sumZ]
  | succ k ih =>
    intro hk
    have hx : o[k]? = some (o[k]'(by omega)) := List.getElem?_eq_getElem (by omega)
    rw [sumK, ih (by omega), take_one hx, sumZ_app, h k _ hx]
    simp [sumZ]
theorem sumK_le {f g : Nat → Int} : ∀ n, (∀ k, k < n → f k ≤ g k) → sumK f n ≤ sumK g n := by
  intro n
  induction n with
  | zero => intro _; exact Int.le_refl _
  | succ n ih =>
    intro h
    have h1 := ih (fun k hk => h k (by omega))
    have h2 := h n (by omega)
    simp only [sumK]
    omega
theorem sumK_congr {f g : Nat → Int} : ∀ n, (∀ k, k < n → f k = g k) → sumK f n = sumK g n := by
  intro n
  induction n with
  | zero => intro _; rfl
  | succ n ih =>
    intro h
    simp only [sumK]
    rw [ih (fun k hk => h k (by omega)), h n (by omega)]
theorem sumK_mul (c : Int) (f : Nat → Int) : ∀ n, sumK (fun k => c * f k) n = c * sumK f n := by
  intro n
  induction n with
  | zero => simp [sumK]
  | succ n ih => simp only [sumK]; rw [ih, Int.mul_add]
theorem sumK_sub (f g : Nat → Int) : ∀ n, sumK (fun k => f k - g k) n = sumK f n - sumK g n := by
  intro n
  induction n with
  | zero => simp [sumK]
  | succ n ih => simp only [sumK]; rw [ih]; omega
theorem sumK_pos {f : Nat → Int} : ∀ n, (∀ k, k < n → 0 ≤ f k) → 0 ≤ sumK f n := by
  intro n
  induction n with
  | zero => intro _; exact Int.le_refl _
  | succ n ih =>
    intro h
    have := ih (fun k hk => h k (by omega))
    have := h n (by omega)
    simp only [sumK]; omega
theorem sumK_one {f : Nat → Int} {j : Nat} : ∀ n, j < n → (∀ k, k < n → 0 ≤ f k) → f j ≤ sumK f n := by
  intro n
  induction n with
  | zero => intro h; omega
  | succ n ih =>
    intro hj h
    simp only [sumK]
    have h0 := sumK_pos n (fun k hk => h k (by omega))
    have h1 := h n (by omega)
    by_cases e : j = n
    · subst e; omega
    · have := ih (by omega) (fun k hk => h k (by omega)); omega
section
variable {l : List Arrival} {high : Bool} {mi : Int} {o : List Int}
theorem ord_fre (h : implOrd l o = true) : freO l.length o = true := by
  have hh := ord_parts h
  exact fre_of_val (by rw [← ord_val hh.1 hh.2.1]; exact h)
theorem loss_sum (ts : List Int) : ∀ k, lossK l o ts k = sumK (lossAt l o ts) k := by
  intro k
  induction k with
  | zero => rfl
  | succ k ih => rw [lossK, sumK, ih]
theorem delay_sum : delayZ l high mi o = sumK (lossAt l o (runT l mi high o).out) o.length := loss_sum _ _
theorem loss_at (h : implOrd l o = true) (m0 : 1 ≤ mi) (m1 : mi ≤ 60) {k : Nat} (hk : k < o.length) : ∃ (i : Nat) (a : Arrival), o[k]? = some (i : Int) ∧ l[i]? = some a ∧ (runT l mi high o).out[k]? = some (begT mi (stK l mi high o k) a) ∧ stK l mi high o (k + 1) = stepT mi (stK l mi high o k) a ∧ lossAt l o (runT l mi high o).out k = a.Weight * (begT mi (stK l mi high o k) a - a.Minute) := by
  obtain ⟨i, a, h1, h2, h3, h4⟩ := ord_beg (high := high) h m0 m1 hk
  exact ⟨i, a, h1, h2, h3, h4, lossAt_eq h1 h3 h2⟩
/-- Behind the first lockage, the chamber isn't free ahead of the minutes of one. -/
theorem free_ge (h : implOrd l o = true) (m0 : 1 ≤ mi) (m1 : mi ≤ 60) {k : Nat} (hk : k < o.length) (hk1 : 0 < k) : mi ≤ (stK l mi high o k).free := by
  obtain ⟨j, rfl⟩ : ∃ j, k = j + 1 := ⟨k - 1, by omega⟩
  obtain ⟨i, a, h1, h2, _, h4⟩ := ord_beg (high := high) h m0 m1 (k := j) (by omega)
  have := (st_free (i := i) h4).1
  have h5 := (beg_ge (mi := mi) (stK l mi high o j) a m0).1
  have h6 := (ord_tk (high := high) h m0 m1 j (by omega)).f0
  have h7 : (stK l mi high o j).free = (runT l mi high (o.take j)).free := rfl
  omega
end
end Go.Proofs.Ytnckpionabokeaa
