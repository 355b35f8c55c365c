/- Plain laws on the best order: visiting all sequences finds what continuing the valid ones finds. No program in sight. -/
import Derived.Test.YtnckpionabokeaaQ8d
namespace Go.Proofs.Ytnckpionabokeaa
open Go.RowKit
/-- A fold over the numbers below k. -/
def foldN {α : Type} (g : Nat → α → α) (a : α) : Nat → α
  | 0 => a
  | k + 1 => g k (foldN g a k)
theorem foldN_one {α : Type} (g : Nat → α → α) (a : α) (k : Nat) : foldN g a (k + 1) = g k (foldN g a k) := rfl
/-- The better of what is known and what has been found; a negative number says that there is none. -/
def mrg (s r : List Int × Int) : List Int × Int := if 0 ≤ r.2 ∧ (s.2 < 0 ∨ r.2 < s.2) then r else s
theorem mrg_yes {s r : List Int × Int} (h0 : 0 ≤ r.2) (h : s.2 < 0 ∨ r.2 < s.2) : mrg s r = r := if_pos ⟨h0, h⟩
theorem mrg_no {s r : List Int × Int} (h : ¬ (s.2 < 0 ∨ r.2 < s.2)) : mrg s r = s := if_neg (fun e => h e.2)
theorem mrg_neg {s r : List Int × Int} (h : r.2 < 0) : mrg s r = s := if_neg (fun e => by omega)
theorem mrg_assoc (s a b : List Int × Int) : mrg (mrg s a) b = mrg s (mrg a b) := by
  by_cases ha : 0 ≤ a.2
  · by_cases hb : 0 ≤ b.2
    · by_cases h1 : b.2 < a.2
      · rw [mrg_yes (s := a) hb (.inr h1)]
        by_cases h2 : s.2 < 0 ∨ a.2 < s.2
        · rw [mrg_yes ha h2, mrg_yes hb (.inr h1), mrg_yes hb (by omega)]
        · rw [mrg_no h2]
      · rw [mrg_no (s := a) (r := b) (by omega)]
        by_cases h2 : s.2 < 0 ∨ a.2 < s.2
        · rw [mrg_yes ha h2, mrg_no (by omega)]
        · rw [mrg_no h2, mrg_no (by omega)]
    · rw [mrg_neg (r := b) (by omega), mrg_neg (r := b) (by omega)]
  · rw [mrg_neg (s := s) (r := a) (by omega)]
    by_cases hb : 0 ≤ b.2
    · rw [mrg_yes (s := a) hb (by omega)]
    · rw [mrg_neg (s := a) (r := b) (by omega), mrg_neg (r := b) (by omega), mrg_neg (r := a) (by omega)]
theorem mrg_pos {s r : List Int × Int} (h : 0 ≤ s.2 ∨ 0 ≤ r.2) : 0 ≤ (mrg s r).2 := by
  unfold mrg
  split <;> omega
theorem mrg_start {r : List Int × Int} (h : 0 ≤ r.2) : mrg ([], -1) r = r := mrg_yes h (.inl (by simp))
theorem mrg_le {s r : List Int × Int} (h : 0 ≤ r.2) : (mrg s r).2 ≤ r.2 := by
  unfold mrg
  split <;> omega
theorem mrg_le1 {s r : List Int × Int} (h : 0 ≤ s.2) : (mrg s r).2 ≤ s.2 := by
  unfold mrg
  split <;> omega
section
variable (l : List Arrival) (high : Bool) (mi : Int)
/-- May i follow o? -/
def mayB (o : List Int) (i : Nat) : Bool := !hasB o i && nextOk l o i
/-- The best order that continues o: the reference. -/
def contB : Nat → List Int → List Int × Int
  | 0, o => (o, delayZ l high mi o)
  | f + 1, o => foldN (fun i s => if mayB l o i = true then mrg s (contB f (o ++ [(i : Int)])) else s) ([], -1) l.length
/-- What the program holds behind a whole sequence. -/
def finR (o : List Int) (s : List Int × Int) : List Int × Int := if implOrd l o = true then mrg s (o, delayZ l high mi o) else s
/-- What the program holds behind all sequences that begin with o. -/
def visR : Nat → List Int → List Int × Int → List Int × Int
  | 0, o, s => finR l high mi o s
  | f + 1, o, s => finR l high mi o (foldN (fun i t => if hasB o i = true then t else visR f (o ++ [(i : Int)]) t) s l.length)
def bestR : (List Int × Int) × Bool := if arrOk l = true ∧ inB mi 1 60 = true then (contB l high mi l.length [], true) else (([], 0), false)
end
section
variable {l : List Arrival} {high : Bool} {mi : Int}
def valO (l : List Arrival) (o : List Int) : Bool := upTo (specAt l o) o o.length
theorem upTo_cut {α : Type} {P Q : Nat → α → Bool} {l m : List α} : ∀ k, (∀ i, i < k → l[i]? = m[i]? ∧ ∀ x, P i x = Q i x) → upTo P l k = upTo Q m k := by
  intro k
  induction k with
  | zero => intro _; rfl
  | succ k ih =>
    intro h
    simp only [upTo]
    rw [ih (fun i hi => h i (by omega)), (h k (by omega)).1]
    cases m[k]? with
    | none => rfl
    | some x => simp only [(h k (by omega)).2 x]
theorem take_snoc_lt {o : List Int} {x : Int} {i : Nat} (h : i ≤ o.length) : (o ++ [x]).take i = o.take i := by
  rw [List.take_append_of_le_length h]
theorem snoc_len (o : List Int) (x : Int) : (o ++ [x]).length = o.length + 1 := by simp
theorem snoc_at (o : List Int) (x : Int) : (o ++ [x])[o.length]? = some x := by simp
theorem val_snoc (o : List Int) (i : Nat) (hi : i < l.length) : valO l (o ++ [(i : Int)]) = (valO l o && mayB l o i) := by
  unfold valO
  rw [snoc_len, upTo_one (snoc_at o i)]
  congr 1
  · refine upTo_cut _ fun j hj => ⟨List.getElem?_append_left hj, fun x => ?_⟩
    simp only [specAt, fresh, take_snoc_lt (Nat.le_of_lt hj)]
  · simp only [specAt, fresh, take_snoc_lt (Nat.le_refl _), List.take_length, mayB]
    have : inB (i : Int) 0 ((l.length : Int) - 1) = true := inB_iff.2 ⟨by omega, by omega⟩
    rw [this, Bool.true_and]
def freO (n : Nat) (o : List Int) : Bool := upTo (fresh n o) o o.length
theorem fre_snoc {n : Nat} {o : List Int} (h : freO n o = true) {i : Nat} (hi : i < n) (hh : hasB o i = false) : freO n (o ++ [(i : Int)]) = true := by
  unfold freO at *
  rw [snoc_len, upTo_one (snoc_at o i), Bool.and_eq_true]
  constructor
  · rw [← h]
    exact upTo_cut _ fun j hj => ⟨List.getElem?_append_left hj, fun x => by simp only [fresh, take_snoc_lt (Nat.le_of_lt hj)]⟩
  · simp only [fresh, take_snoc_lt (Nat.le_refl _), List.take_length, hh]
    have : inB (i : Int) 0 ((n : Int) - 1) = true := inB_iff.2 ⟨by omega, by omega⟩
    rw [this]; rfl
theorem fre_of_val {o : List Int} (h : valO l o = true) : freO l.length o = true := fresh_spec h
theorem fre_nil (n : Nat) : freO n [] = true := rfl
theorem val_nil (l : List Arrival) : valO l [] = true := rfl
/-- All are there behind n different ones. -/
theorem fre_full {n : Nat} {o : List Int} (h : freO n o = true) (hl : o.length = n) {i : Nat} (hi : i < n) : hasB o i = true := by
  obtain ⟨p, hp⟩ := all_there hl h hi
  exact has_at hp
theorem ord_val {o : List Int} (hok : arrOk l = true) (hl : o.length = l.length) : implOrd l o = valO l o := by
  rw [← ord_same, specOrd, hok, hl]
  simp [valO, hl]
theorem ord_short {o : List Int} (hl : o.length < l.length) : implOrd l o = false := by
  have : ¬ o.length = l.length := by omega
  simp [implOrd, this]
theorem foldN_id {α : Type} {g : Nat → α → α} {a : α} : ∀ k, (∀ i, i < k → g i a = a) → foldN g a k = a := by
  intro k
  induction k with
  | zero => intro _; rfl
  | succ k ih =>
    intro h
    rw [foldN_one, ih (fun i hi => h i (by omega))]
    exact h k (by omega)
theorem vis_bad (hok : arrOk l = true) : ∀ f (o : List Int) s, o.length + f = l.length → valO l o = false → visR l high mi f o s = s := by
  intro f
  induction f with
  | zero =>
    intro o s hl hv
    rw [visR, finR, ord_val hok (by omega), hv]
    simp
  | succ f ih =>
    intro o s hl hv
    rw [visR, finR, ord_short (by omega)]
    simp only [Bool.false_eq_true, if_false]
    refine foldN_id _ fun i hi => ?_
    by_cases hh : hasB o i = true
    · rw [if_pos hh]
    · rw [if_neg hh]
      refine ih _ _ (by rw [snoc_len]; omega) ?_
      rw [val_snoc o i hi, hv]; rfl
/-! ### there is a next one -/
theorem least_of {α : Type} (r : α → α → Bool) (htr : ∀ a b c, r a b = true → r b c = true → r a c = true) (hir : ∀ a, r a a = false) : ∀ S : List α, S ≠ [] → ∃ x ∈ S, ∀ y ∈ S, r y x = false := by
  intro S
  induction S with
  | nil => intro h; exact absurd rfl h
  | cons a S ih =>
    intro _
    by_cases hS : S = []
    · subst hS
      exact ⟨a, by simp, fun y hy => by simp at hy; subst hy; exact hir _⟩
    · obtain ⟨x, hx, hmin⟩ := ih hS
      cases hax : r a x
      · exact ⟨x, by simp [hx], fun y hy => by
          rcases List.mem_cons.1 hy with rfl | hy
          · exact hax
          · exact hmin y hy⟩
      · refine ⟨a, by simp, fun y hy => ?_⟩
        rcases List.mem_cons.1 hy with rfl | hy
        · exact hir _
        · cases hya : r y a
          · rfl
          · have := htr y a x hya hax
            rw [hmin y hy] at this
            cases this
theorem befA_trans' {a b c : Arrival} (h1 : befA a b = true) (h2 : befA b c = true) : befA a c = true := by
  simp only [befA, Bool.or_eq_true, Bool.and_eq_true, decide_eq_true_eq] at *
  omega
theorem befA_irr (a : Arrival) : befA a a = false := by
  simp only [befA, Bool.or_eq_false_iff, Bool.and_eq_false_iff, decide_eq_false_iff_not]
  omega
theorem next_there {o : List Int} (hr : ∀ x ∈ o, 0 ≤ x) (hn : o.length < l.length) : ∃ i, i < l.length ∧ mayB l o i = true := by
  have hS : (List.range l.length).filter (fun i : Nat => !hasB o (i : Int)) ≠ [] := by
    intro e
    rw [List.filter_eq_nil_iff] at e
    have h1 : ∀ x ∈ List.range l.length, x ∈ o.map Int.toNat := by
      intro x hx
      have := e x hx
      simp only [Bool.not_eq_true', Bool.not_eq_false] at this
      exact List.mem_map.2 ⟨x, hasB_iff.1 this, by omega⟩
    have := sub_len _ _ List.nodup_range h1
    simp at this
    omega
  obtain ⟨i, hi, hmin⟩ := least_of (fun a b : Nat => befI l a b) (fun a b c => befA_trans') (fun a => befA_irr _) _ hS
  rw [List.mem_filter] at hi
  refine ⟨i, List.mem_range.1 hi.1, ?_⟩
  simp only [mayB, Bool.and_eq_true]
  refine ⟨hi.2, ?_⟩
  rw [nextOk, List.all_eq_true]
  intro m hm
  cases hh : hasB o (m : Int)
  · have := hmin m (List.mem_filter.2 ⟨hm, by rw [hh]; rfl⟩)
    have h2 : ahead l m i = false := by unfold ahead; unfold befI at this; rw [this]; simp
    rw [h2]; simp
  · simp
/-! ### delays of orders are not negative -/
theorem late_out {l : List Arrival} {mi : Int} {high : Bool} {o : List Int} {p i : Nat} {t : Int} {a : Arrival} (hp : o[p]? = some (i : Int)) (ha : l[i]? = some a) : ∀ k, p < k → k ≤ o.length → (∀ j, j ≤ o.length → (runT l mi high (o.take j)).out.length = j) → (runT l mi high (o.take k)).out[p]? = some t → a.Minute ≤ t := by
  intro k
  induction k with
  | zero => intro h; omega
  | succ k ih =>
    intro h1 h2 hlen ht
    have hx : o[k]? = some (o[k]'(by omega)) := List.getElem?_eq_getElem (by omega)
    rw [runT_one hx] at ht
    by_cases hpk : p = k
    · subst hpk
      rw [hp] at hx
      have e := Option.some.inj hx
      rw [← e, arrAtI_nat ha] at ht
      simp only [stepT] at ht
      rw [List.getElem?_append_right (by rw [hlen _ (by omega)]; exact Nat.le_refl _), hlen _ (by omega), Nat.sub_self] at ht
      have := Option.some.inj ht
      omega
    · simp only [stepT] at ht
      rw [List.getElem?_append_left (by rw [hlen _ (by omega)]; omega)] at ht
      exact ih (by omega) (by omega) hlen ht
/-- What is known of an order's begins. -/
theorem ord_tk {o : List Int} (h : implOrd l o = true) (m0 : 1 ≤ mi) (m1 : mi ≤ 60) : ∀ k, k ≤ o.length → Tk k (runT l mi high (o.take k)) := by
  obtain ⟨hok, hlen, hr⟩ := ord_parts h
  exact tk_run hr (fun i a ha => (arr_bd hok ha).2.1) m0 m1
theorem ord_at {o : List Int} (h : implOrd l o = true) (m0 : 1 ≤ mi) (m1 : mi ≤ 60) {k : Nat} (hk : k < o.length) : ∃ (i : Nat) (a : Arrival) (t : Int), o[k]? = some (i : Int) ∧ l[i]? = some a ∧ (runT l mi high o).out[k]? = some t ∧ a.Minute ≤ t := by
  obtain ⟨hok, hlen, hr⟩ := ord_parts h
  have htk := ord_tk (high := high) h m0 m1
  have hx : o[k]? = some (o[k]'hk) := List.getElem?_eq_getElem hk
  generalize o[k]'hk = x at hx
  obtain ⟨x0, x1⟩ := hr k x hx
  obtain ⟨i, rfl⟩ := Int.eq_ofNat_of_zero_le x0
  have ha : l[i]? = some (l[i]'(by omega)) := List.getElem?_eq_getElem (by omega)
  have hol : (runT l mi high o).out.length = o.length := by have := (htk o.length (Nat.le_refl _)).len; rwa [List.take_length] at this
  have ht : (runT l mi high o).out[k]? = some ((runT l mi high o).out[k]'(by omega)) := List.getElem?_eq_getElem (by omega)
  refine ⟨i, _, _, hx, ha, ht, ?_⟩
  refine late_out (l := l) (mi := mi) (high := high) (o := o) hx ha o.length hk (Nat.le_refl _) (fun j hj => (htk j hj).len) ?_
  rw [List.take_length]
  exact ht
theorem delay_pos {o : List Int} (h : implOrd l o = true) (m0 : 1 ≤ mi) (m1 : mi ≤ 60) : 0 ≤ delayZ l high mi o := by
  have hok := (ord_parts h).1
  have : ∀ k, k ≤ o.length → 0 ≤ lossK l o (runT l mi high o).out k := by
    intro k
    induction k with
    | zero => intro _; simp [lossK]
    | succ k ih =>
      intro hk
      obtain ⟨i, a, t, e1, e2, e3, e4⟩ := ord_at (high := high) h m0 m1 (k := k) (by omega)
      rw [lossK, lossAt_eq e1 e3 e2]
      have hw := (arr_bd hok e2).2.2
      have := Int.mul_nonneg (show 0 ≤ a.Weight by omega) (show 0 ≤ t - a.Minute by omega)
      have := ih (by omega)
      omega
  exact this _ (Nat.le_refl _)
theorem fold_pos {P : Nat → Bool} {r : Nat → List Int × Int} : ∀ k, (∀ i, i < k → P i = true → 0 ≤ (r i).2) → ∀ s : List Int × Int, (0 ≤ s.2 ∨ ∃ i, i < k ∧ P i = true) → 0 ≤ (foldN (fun i s => if P i = true then mrg s (r i) else s) s k).2 := by
  intro k
  induction k with
  | zero =>
    intro _ s h
    rcases h with h | ⟨i, hi, _⟩
    · exact h
    · omega
  | succ k ih =>
    intro hr s h
    rw [foldN_one]
    by_cases hp : P k = true
    · rw [if_pos hp]
      exact mrg_pos (.inr (hr k (by omega) hp))
    · rw [if_neg hp]
      refine ih (fun i hi => hr i (by omega)) s ?_
      rcases h with h | ⟨i, hi, h⟩
      · exact .inl h
      · refine .inr ⟨i, ?_, h⟩
        by_cases e : i = k
        · subst e; exact absurd h hp
        · omega
theorem val_rng {o : List Int} (h : valO l o = true) : ∀ x ∈ o, 0 ≤ x := by
  intro x hx
  obtain ⟨k, hk, e⟩ := List.getElem_of_mem hx
  have := upTo_at (fre_of_val h) hk (List.getElem?_eq_getElem hk)
  simp only [fresh, Bool.and_eq_true, inB_iff] at this
  omega
theorem cont_pos (hok : arrOk l = true) (m0 : 1 ≤ mi) (m1 : mi ≤ 60) : ∀ f (o : List Int), o.length + f = l.length → valO l o = true → 0 ≤ (contB l high mi f o).2 := by
  intro f
  induction f with
  | zero =>
    intro o hl hv
    exact delay_pos (by rw [ord_val hok (by omega)]; exact hv) m0 m1
  | succ f ih =>
    intro o hl hv
    rw [contB]
    refine fold_pos (P := fun i => mayB l o i) _ (fun i hi hp => ih _ (by rw [snoc_len]; omega) (by rw [val_snoc o i hi, hv, hp]; rfl)) _ (.inr ?_)
    exact next_there (val_rng hv) (by omega)
theorem vis_good (hok : arrOk l = true) (m0 : 1 ≤ mi) (m1 : mi ≤ 60) : ∀ f (o : List Int) s, o.length + f = l.length → valO l o = true → visR l high mi f o s = mrg s (contB l high mi f o) := by
  intro f
  induction f with
  | zero =>
    intro o s hl hv
    rw [visR, finR, ord_val hok (by omega), hv, if_pos rfl, contB]
  | succ f ih =>
    intro o s hl hv
    rw [visR, finR, ord_short (by omega), contB]
    simp only [Bool.false_eq_true, if_false]
    have key : ∀ k, k ≤ l.length → foldN (fun i t => if hasB o (i : Int) = true then t else visR l high mi f (o ++ [(i : Int)]) t) s k = mrg s (foldN (fun i s => if mayB l o i = true then mrg s (contB l high mi f (o ++ [(i : Int)])) else s) ([], -1) k) := by
      intro k
      induction k with
      | zero => intro _; exact (mrg_neg (by simp [foldN])).symm
      | succ k ihk =>
        intro hk
        rw [foldN_one, foldN_one, ihk (by omega)]
        by_cases hh : hasB o (k : Int) = true
        · rw [if_pos hh, if_neg (by simp [mayB, hh])]
        · rw [if_neg hh]
          have hlen : (o ++ [(k : Int)]).length + f = l.length := by rw [snoc_len]; omega
          by_cases hm : mayB l o k = true
          · rw [if_pos hm, ih _ _ hlen (by rw [val_snoc o k (by omega), hv, hm]; rfl), mrg_assoc]
          · rw [if_neg hm, vis_bad hok f _ _ hlen (by rw [val_snoc o k (by omega)]; simp [hm])]
    exact key _ (Nat.le_refl _)
theorem vis_all (hok : arrOk l = true) (m0 : 1 ≤ mi) (m1 : mi ≤ 60) : visR l high mi l.length [] ([], -1) = contB l high mi l.length [] := by
  rw [vis_good hok m0 m1 _ _ _ (by simp) (val_nil l), mrg_start (cont_pos hok m0 m1 _ _ (by simp) (val_nil l))]
/-! ### the best order is an order, and none is better -/
theorem fold_from {P : Nat → Bool} {r : Nat → List Int × Int} (Q : List Int × Int → Prop) : ∀ k, (∀ i, i < k → P i = true → Q (r i)) → ∀ s : List Int × Int, Q (foldN (fun i s => if P i = true then mrg s (r i) else s) s k) ∨ foldN (fun i s => if P i = true then mrg s (r i) else s) s k = s := by
  intro k
  induction k with
  | zero => intro _ s; exact .inr rfl
  | succ k ih =>
    intro h s
    rw [foldN_one]
    by_cases hp : P k = true
    · rw [if_pos hp]
      unfold mrg
      split
      · exact .inl (h k (by omega) hp)
      · exact ih (fun i hi => h i (by omega)) s
    · rw [if_neg hp]
      exact ih (fun i hi => h i (by omega)) s
theorem fold_le {P : Nat → Bool} {r : Nat → List Int × Int} : ∀ k, (∀ i, i < k → P i = true → 0 ≤ (r i).2) → ∀ s : List Int × Int, ∀ i, i < k → P i = true → (foldN (fun i s => if P i = true then mrg s (r i) else s) s k).2 ≤ (r i).2 := by
  intro k
  induction k with
  | zero => intro _ s i hi; omega
  | succ k ih =>
    intro hr s i hi hp
    rw [foldN_one]
    by_cases e : i = k
    · subst e
      rw [if_pos hp]
      exact mrg_le (hr i (by omega) hp)
    · have h1 := ih (fun j hj => hr j (by omega)) s i (by omega) hp
      by_cases hk : P k = true
      · rw [if_pos hk]
        have h2 := fold_pos k (fun j hj => hr j (by omega)) s (.inr ⟨i, by omega, hp⟩)
        have := mrg_le1 (r := r k) h2
        omega
      · rw [if_neg hk]; exact h1
theorem cont_ord (hok : arrOk l = true) (m0 : 1 ≤ mi) (m1 : mi ≤ 60) : ∀ f (o : List Int), o.length + f = l.length → valO l o = true → implOrd l (contB l high mi f o).1 = true ∧ (contB l high mi f o).2 = delayZ l high mi (contB l high mi f o).1 := by
  intro f
  induction f with
  | zero =>
    intro o hl hv
    exact ⟨by show implOrd l o = true; rw [ord_val hok (by omega)]; exact hv, rfl⟩
  | succ f ih =>
    intro o hl hv
    have hpos := cont_pos (high := high) hok m0 m1 (f + 1) o hl hv
    rw [contB] at hpos ⊢
    rcases fold_from (P := fun i => mayB l o i) (r := fun i => contB l high mi f (o ++ [(i : Int)])) (fun r => implOrd l r.1 = true ∧ r.2 = delayZ l high mi r.1) l.length (fun i hi hp => ih _ (by rw [snoc_len]; omega) (by rw [val_snoc o i hi, hv, hp]; rfl)) ([], -1) with h | h
    · exact h
    · rw [h] at hpos
      simp at hpos
theorem cont_best (hok : arrOk l = true) (m0 : 1 ≤ mi) (m1 : mi ≤ 60) : ∀ f (o : List Int), o.length + f = l.length → valO l o = true → ∀ q : List Int, implOrd l q = true → q.take o.length = o → (contB l high mi f o).2 ≤ delayZ l high mi q := by
  intro f
  induction f with
  | zero =>
    intro o hl hv q hq he
    have := (ord_parts hq).2.1
    rw [List.take_of_length_le (by omega)] at he
    rw [he]
    exact Int.le_refl _
  | succ f ih =>
    intro o hl hv q hq he
    obtain ⟨_, hql, hqr⟩ := ord_parts hq
    have hlt : o.length < q.length := by omega
    have hx : q[o.length]? = some (q[o.length]'hlt) := List.getElem?_eq_getElem hlt
    generalize q[o.length]'hlt = x at hx
    obtain ⟨x0, x1⟩ := hqr _ _ hx
    obtain ⟨i, rfl⟩ := Int.eq_ofNat_of_zero_le x0
    have hi : i < l.length := by omega
    have hvq : valO l q = true := by rw [← ord_val hok hql]; exact hq
    have hm : mayB l o i = true := by
      have := upTo_at hvq hlt hx
      simp only [specAt, fresh, he, Bool.and_eq_true] at this
      simp only [mayB, Bool.and_eq_true]
      exact ⟨this.1.2, this.2⟩
    have hlen : (o ++ [(i : Int)]).length + f = l.length := by rw [snoc_len]; omega
    have hvn : valO l (o ++ [(i : Int)]) = true := by rw [val_snoc o i hi, hv, hm]; rfl
    have h1 := ih (o ++ [(i : Int)]) hlen hvn q hq (by rw [snoc_len, take_one hx, he])
    have h2 := fold_le (P := fun i => mayB l o i) (r := fun i => contB l high mi f (o ++ [(i : Int)])) l.length (fun j hj hp => cont_pos hok m0 m1 f _ (by rw [snoc_len]; omega) (by rw [val_snoc o j hj, hv, hp]; rfl)) ([], -1) i hi hm
    rw [contB]
    omega
theorem best_facts (hok : arrOk l = true) (m0 : 1 ≤ mi) (m1 : mi ≤ 60) : implOrd l (contB l high mi l.length []).1 = true ∧ (contB l high mi l.length []).2 = delayZ l high mi (contB l high mi l.length []).1 ∧ ∀ q, implOrd l q = true → (contB l high mi l.length []).2 ≤ delayZ l high mi q := by
  obtain ⟨h1, h2⟩ := cont_ord (high := high) hok m0 m1 l.length [] (by simp) (val_nil l)
  exact ⟨h1, h2, fun q hq => cont_best hok m0 m1 l.length [] (by simp) (val_nil l) q hq (by simp)⟩
end
end Go.Proofs.Ytnckpionabokeaa
