/- Plain laws: no order has a smaller delay than the bounds say. No program in sight. -/
import Derived.Test.YtcmlphikdgfilaaQ8f
import Derived.Test.YtcmlphikdgfilaaQ9b
namespace Go.Proofs.Ytcmlphikdgfilaa
open Go.RowKit
section
variable {l : List Arrival} {high : Bool} {mi : Int} {o : List Int}
/-- The delay of a vessel alone. -/
def aloneAt (l : List Arrival) (high : Bool) (mi : Int) (x : Int) : Int := delayZ [arrAtI l x] high mi [0]
theorem alone_sum (l : List Arrival) (high : Bool) (mi : Int) : ∀ n, n ≤ l.length → aloneK l high mi n = sumZ (aloneAt l high mi) (idsZ n) := by
  intro n
  induction n with
  | zero => intro _; simp [aloneK, sumZ, idsZ]
  | succ n ih =>
    intro hn
    have hx : l[n]? = some (l[n]'(by omega)) := List.getElem?_eq_getElem (by omega)
    generalize l[n]'(by omega) = p at hx
    rw [aloneK_one hx, ih (by omega), idsZ_snoc, sumZ_app]
    simp [sumZ, aloneAt, arrAtI_nat hx]
theorem alone_le (h : implOrd l o = true) (m0 : 1 ≤ mi) (m1 : mi ≤ 60) : aloneK l high mi l.length ≤ delayZ l high mi o := by
  obtain ⟨hok, hlen, _⟩ := ord_parts h
  rw [alone_sum l high mi _ (Nat.le_refl _), ← sum_fre (ord_fre h) hlen, delay_sum]
  have e : sumZ (aloneAt l high mi) o = sumK (fun k => aloneAt l high mi ((o[k]?).getD 0)) o.length := by
    rw [sumK_list (aloneAt l high mi) _ o (fun k x hx => by simp [hx]) _ (Nat.le_refl _), List.take_length]
  rw [e]
  refine sumK_le _ (fun k hk => ?_)
  obtain ⟨i, a, h1, h2, h3, h4, h5⟩ := loss_at (high := high) h m0 m1 hk
  rw [h5, h1]
  simp only [Option.getD_some, aloneAt]
  rw [arrAtI_nat h2, delay_one]
  have hw := (arr_bd hok h2).2.2
  refine Int.mul_le_mul_of_nonneg_left ?_ (by omega)
  have hkey : max (if a.Up = high then 0 + mi else 0) a.Minute ≤ begT mi (stK l mi high o k) a := by
    by_cases hk0 : k = 0
    · subst hk0
      rw [stK_zero]
      exact Int.le_refl _
    · have hf := free_ge (high := high) h m0 m1 hk (by omega)
      have hb := beg_ge (mi := mi) (stK l mi high o k) a m0
      split <;> omega
  omega
/-- How long the vessels wait in all, in the order of their minutes, if the chamber never turns. -/
def freeQ (l : List Arrival) (mi : Int) (q : List Int) (k : Nat) : Int := (runQ l mi (q.take k)).free
theorem runQ_sum {q : List Int} (hr : ∀ (k : Nat) (x : Int), q[k]? = some x → 0 ≤ x ∧ x < l.length) : ∀ k, k ≤ q.length → (runQ l mi (q.take k)).sum = sumK (fun j => max (freeQ l mi q j) (arrAtI l ((q[j]?).getD 0)).Minute - (arrAtI l ((q[j]?).getD 0)).Minute) k := by
  intro k
  induction k with
  | zero => intro _; rfl
  | succ k ih =>
    intro hk
    have hx : q[k]? = some (q[k]'(by omega)) := List.getElem?_eq_getElem (by omega)
    generalize q[k]'(by omega) = x at hx
    obtain ⟨x0, x1⟩ := hr k x hx
    obtain ⟨i, rfl⟩ := Int.eq_ofNat_of_zero_le x0
    have ha : l[i]? = some (l[i]'(by omega)) := List.getElem?_eq_getElem (by omega)
    rw [runQ_one hx ha, sumK, ← ih (by omega), hx]
    simp only [stepQ, Option.getD_some, arrAtI_nat ha, freeQ]
theorem runQ_least {q : List Int} (hr : ∀ (k : Nat) (x : Int), q[k]? = some x → 0 ≤ x ∧ x < l.length) : ∀ k, k ≤ q.length → ∀ (j : Nat) (x : Int), j < k → q[j]? = some x → (runQ l mi (q.take k)).least ≤ (arrAtI l x).Weight := by
  intro k
  induction k with
  | zero => intro _ j x hj; omega
  | succ k ih =>
    intro hk j x hj hx
    have hy : q[k]? = some (q[k]'(by omega)) := List.getElem?_eq_getElem (by omega)
    generalize q[k]'(by omega) = y at hy
    obtain ⟨y0, y1⟩ := hr k y hy
    obtain ⟨i, rfl⟩ := Int.eq_ofNat_of_zero_le y0
    have ha : l[i]? = some (l[i]'(by omega)) := List.getElem?_eq_getElem (by omega)
    rw [runQ_one hy ha]
    simp only [stepQ]
    by_cases e : j = k
    · subst e
      rw [hx] at hy
      have := Option.some.inj hy
      subst this
      rw [arrAtI_nat ha]
      omega
    · have := ih (by omega) j x (by omega) hx
      omega
/-- Among the first k + 1 vessels of an order is one that comes as late as the k-th by minutes. -/
theorem late_one (h : implOrd l o = true) {k : Nat} (hk : k < l.length) : ∃ (p : Nat) (x : Int), p ≤ k ∧ o[p]? = some x ∧ (arrAtI l (((fcK l l.length)[k]?).getD 0)).Minute ≤ (arrAtI l x).Minute := by
  obtain ⟨hok, hlen, _⟩ := ord_parts h
  have hfc := fc_ord hok
  have hfl := fcK_len l l.length
  have hso := fc_sorted l l.length
  have hfr := ord_fre h
  have hff := ord_fre hfc
  have hex : ∃ (p : Nat) (x : Int), p ≤ k ∧ o[p]? = some x ∧ x ∉ (fcK l l.length).take k := by
    refine Classical.byContradiction fun hno => ?_
    have hsub : ∀ x ∈ o.take (k + 1), x ∈ (fcK l l.length).take k := by
      intro x hx
      refine Classical.byContradiction fun hnx => hno ?_
      obtain ⟨p, hp, e⟩ := List.mem_take_iff_getElem.1 hx
      exact ⟨p, x, by omega, by rw [List.getElem?_eq_getElem (by omega), e], hnx⟩
    have hnd : ((o.take (k + 1)).map Int.toNat).Nodup := by
      rw [List.nodup_iff_pairwise_ne, List.pairwise_iff_getElem]
      intro i j hi hj hij e
      simp only [List.length_map, List.length_take] at hi hj
      simp only [List.getElem_map, List.getElem_take] at e
      have h1 := fre_mem hfr (List.getElem_mem (show i < o.length by omega))
      have h2 := fre_mem hfr (List.getElem_mem (show j < o.length by omega))
      have := (List.pairwise_iff_getElem.1 (List.nodup_iff_pairwise_ne.1 (fre_nodup hfr))) i j (by omega) (by omega) hij
      omega
    have := sub_len ((o.take (k + 1)).map Int.toNat) (((fcK l l.length).take k).map Int.toNat) hnd (by
      intro x hx
      obtain ⟨y, hy, rfl⟩ := List.mem_map.1 hx
      exact List.mem_map.2 ⟨y, hsub y hy, rfl⟩)
    simp only [List.length_map, List.length_take] at this
    omega
  obtain ⟨p, x, hp, hx, hnx⟩ := hex
  refine ⟨p, x, hp, hx, ?_⟩
  have hxr := fre_mem hfr (List.mem_of_getElem? hx)
  obtain ⟨m, rfl⟩ := Int.eq_ofNat_of_zero_le hxr.1
  obtain ⟨q, hq⟩ := all_there hfl hff (m := m) (by omega)
  have hql := (List.getElem?_eq_some_iff.1 hq).1
  have hqk : k ≤ q := by
    refine Classical.byContradiction fun hlt => hnx ?_
    exact List.mem_take_iff_getElem.2 ⟨q, by omega, (List.getElem?_eq_some_iff.1 hq).2⟩
  have hy : (fcK l l.length)[k]? = some ((fcK l l.length)[k]'(by omega)) := List.getElem?_eq_getElem (by omega)
  rw [hy]
  simp only [Option.getD_some]
  by_cases e : q = k
  · subst e
    rw [hq] at hy
    have := Option.some.inj hy
    rw [← this]
    exact Int.le_refl _
  · have hs := (List.pairwise_iff_getElem.1 hso) k q (by omega) hql (by omega)
    have h9 := hs.1
    rw [(List.getElem?_eq_some_iff.1 hq).2] at h9
    unfold befI befA at h9
    simp only [Bool.or_eq_false_iff, decide_eq_false_iff_not] at h9
    omega
/-- No lockage of an order begins ahead of the one that is as far on in the order of the minutes. -/
theorem beg_late (h : implOrd l o = true) (m0 : 1 ≤ mi) (m1 : mi ≤ 60) : ∀ k, k < l.length → ∀ (i : Nat) (a : Arrival), o[k]? = some (i : Int) → l[i]? = some a → max (freeQ l mi (fcK l l.length) k) (arrAtI l (((fcK l l.length)[k]?).getD 0)).Minute ≤ begT mi (stK l mi high o k) a := by
  obtain ⟨hok, hlen, _⟩ := ord_parts h
  have hfl := fcK_len l l.length
  have hmono : ∀ p k, p < k → k < l.length → ∀ (i j : Nat) (a b : Arrival), o[p]? = some (i : Int) → l[i]? = some a → o[k]? = some (j : Int) → l[j]? = some b → begT mi (stK l mi high o p) a ≤ begT mi (stK l mi high o k) b := by
    intro p k
    induction k with
    | zero => intro h; omega
    | succ k ih =>
      intro h1 h2 i j a b e1 e2 e3 e4
      obtain ⟨i', a', f1, f2, _, f4⟩ := ord_beg (high := high) h m0 m1 (k := k) (by omega)
      have hf := (st_free (i := i') f4).1
      have hb := (beg_ge (mi := mi) (stK l mi high o (k + 1)) b m0).1
      by_cases e : p = k
      · subst e
        rw [e1] at f1
        have := Option.some.inj f1
        obtain rfl : i = i' := by omega
        rw [e2] at f2
        have := Option.some.inj f2
        subst this
        omega
      · have := ih (by omega) (by omega) i i' a a' e1 e2 f1 f2
        omega
  intro k
  induction k with
  | zero =>
    intro hk i a e1 e2
    obtain ⟨p, x, hp, hx, hm⟩ := late_one h hk
    obtain rfl : p = 0 := by omega
    rw [e1] at hx
    have := Option.some.inj hx
    subst this
    rw [arrAtI_nat e2] at hm
    have hb := beg_ge (mi := mi) (stK l mi high o 0) a m0
    have h0 : freeQ l mi (fcK l l.length) 0 = 0 := rfl
    have h1 : (stK l mi high o 0).free = 0 := rfl
    omega
  | succ k ih =>
    intro hk i a e1 e2
    obtain ⟨i', a', f1, f2, _, f4⟩ := ord_beg (high := high) h m0 m1 (k := k) (by omega)
    have h1 := ih (by omega) i' a' f1 f2
    have hf := (st_free (i := i') f4).1
    have hb := beg_ge (mi := mi) (stK l mi high o (k + 1)) a m0
    have hx : (fcK l l.length)[k]? = some ((fcK l l.length)[k]'(by omega)) := List.getElem?_eq_getElem (by omega)
    generalize (fcK l l.length)[k]'(by omega) = x at hx
    obtain ⟨x0, x1⟩ := fc_rng l l.length k x hx
    obtain ⟨j, rfl⟩ := Int.eq_ofNat_of_zero_le x0
    have ha : l[j]? = some (l[j]'(by omega)) := List.getElem?_eq_getElem (by omega)
    have h2 : freeQ l mi (fcK l l.length) (k + 1) = max (freeQ l mi (fcK l l.length) k) (arrAtI l (((fcK l l.length)[k]?).getD 0)).Minute + mi := by
      rw [freeQ, runQ_one hx ha, hx]
      simp only [stepQ, Option.getD_some, arrAtI_nat ha, freeQ]
    obtain ⟨p, y, hp, hy, hm⟩ := late_one h hk
    have hyr := fre_mem (ord_fre h) (List.mem_of_getElem? hy)
    obtain ⟨t, rfl⟩ := Int.eq_ofNat_of_zero_le hyr.1
    have ht : l[t]? = some (l[t]'(by omega)) := List.getElem?_eq_getElem (by omega)
    generalize l[t]'(by omega) = b at ht
    rw [arrAtI_nat ht] at hm
    have h3 : (arrAtI l (((fcK l l.length)[k + 1]?).getD 0)).Minute ≤ begT mi (stK l mi high o (k + 1)) a := by
      have hb2 := (beg_ge (mi := mi) (stK l mi high o p) b m0).2
      by_cases e : p = k + 1
      · subst e
        rw [hy] at e1
        have := Option.some.inj e1
        obtain rfl : t = i := by omega
        rw [ht] at e2
        have := Option.some.inj e2
        subst this
        omega
      · have := hmono p (k + 1) (by omega) hk t i b a hy ht e1 e2
        omega
    omega
theorem queue_le (h : implOrd l o = true) (m0 : 1 ≤ mi) (m1 : mi ≤ 60) : queueZ l mi ≤ delayZ l high mi o := by
  obtain ⟨hok, hlen, hrg⟩ := ord_parts h
  have hfl := fcK_len l l.length
  have hfr := fc_rng l l.length
  have hfc := fc_ord hok
  have hq := queue_qk (mi := mi) hok m0 m1 l.length (Nat.le_refl _)
  rw [List.take_of_length_le (Nat.le_of_eq hfl)] at hq
  have hsum := runQ_sum (l := l) (mi := mi) hfr l.length (by omega)
  have hleast := runQ_least (l := l) (mi := mi) hfr l.length (by omega)
  rw [List.take_of_length_le (Nat.le_of_eq hfl)] at hsum hleast
  rw [queueZ, delay_sum, hsum, ← sumK_mul, hlen]
  -- the sums of the minutes are the same
  have hmin : sumK (fun k => (arrAtI l (((fcK l l.length)[k]?).getD 0)).Minute) l.length = sumK (fun k => (arrAtI l ((o[k]?).getD 0)).Minute) l.length := by
    have e1 := sumK_list (fun x => (arrAtI l x).Minute) (fun k => (arrAtI l (((fcK l l.length)[k]?).getD 0)).Minute) (fcK l l.length) (fun k x hx => by simp [hx]) l.length (by omega)
    have e2 := sumK_list (fun x => (arrAtI l x).Minute) (fun k => (arrAtI l ((o[k]?).getD 0)).Minute) o (fun k x hx => by simp [hx]) l.length (by omega)
    rw [e1, e2, List.take_of_length_le (Nat.le_of_eq hfl), List.take_of_length_le (Nat.le_of_eq hlen), sum_fre (ord_fre hfc) hfl, sum_fre (ord_fre h) hlen]
  have hstep : (runQ l mi (fcK l l.length)).least * sumK (fun k => (match o[k]? with | some x => begT mi (stK l mi high o k) (arrAtI l x) | none => 0) - (arrAtI l ((o[k]?).getD 0)).Minute) l.length ≤ sumK (lossAt l o (runT l mi high o).out) l.length := by
    rw [← sumK_mul]
    refine sumK_le _ (fun k hk => ?_)
    obtain ⟨i, a, h1, h2, h3, h4, h5⟩ := loss_at (high := high) h m0 m1 (k := k) (by omega)
    rw [h5, h1]
    simp only [Option.getD_some, arrAtI_nat h2]
    have hb := (beg_ge (mi := mi) (stK l mi high o k) a m0).2
    obtain ⟨q, hq2⟩ := all_there hfl (ord_fre hfc) (m := i) (List.getElem?_eq_some_iff.1 h2).1
    have hle := hleast q i (by have := (List.getElem?_eq_some_iff.1 hq2).1; omega) hq2
    rw [arrAtI_nat h2] at hle
    exact Int.mul_le_mul_of_nonneg_right hle (by omega)
  refine Int.le_trans ?_ hstep
  rw [sumK_mul]
  refine Int.mul_le_mul_of_nonneg_left ?_ hq.l0
  rw [sumK_sub, sumK_sub, hmin]
  have := sumK_le (f := fun k => max (freeQ l mi (fcK l l.length) k) (arrAtI l (((fcK l l.length)[k]?).getD 0)).Minute) (g := fun k => match o[k]? with | some x => begT mi (stK l mi high o k) (arrAtI l x) | none => 0) l.length (fun k hk => by
    obtain ⟨i, a, h1, h2, _, _⟩ := ord_beg (high := high) h m0 m1 (k := k) (by omega)
    have := beg_late (high := high) h m0 m1 k hk i a h1 h2
    simp only [h1, arrAtI_nat h2]
    exact this)
  omega
theorem lower_le (h : implOrd l o = true) (m0 : 1 ≤ mi) (m1 : mi ≤ 60) : lowerZ l high mi ≤ delayZ l high mi o := by
  have h1 := alone_le (high := high) h m0 m1
  have h2 := queue_le (high := high) h m0 m1
  unfold lowerZ
  omega
end
end Go.Proofs.Ytcmlphikdgfilaa
