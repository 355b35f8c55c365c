/- Plain laws on the best draining: visiting all sequences finds what continuing them finds. No program in sight. -/
import Derived.Test.YteejalanjeeecaaQ11
namespace Go.Proofs.Yteejalanjeeecaa
open Go.RowKit
/-- A fold over the numbers below k. -/
def foldN {α : Type} (g : Nat → α → α) (a : α) : Nat → α
  | 0 => a
  | k + 1 => g k (foldN g a k)
theorem foldN_one {α : Type} (g : Nat → α → α) (a : α) (k : Nat) : foldN g a (k + 1) = g k (foldN g a k) := rfl
/-- The greater of what is known and what has been found; of equal ones the known one. -/
def mxo (s r : List Int × Int) : List Int × Int := if s.2 < r.2 then r else s
theorem mxo_yes {s r : List Int × Int} (h : s.2 < r.2) : mxo s r = r := if_pos h
theorem mxo_no {s r : List Int × Int} (h : ¬ s.2 < r.2) : mxo s r = s := if_neg h
theorem mxo_assoc (s a b : List Int × Int) : mxo (mxo s a) b = mxo s (mxo a b) := by
  by_cases h1 : s.2 < a.2 <;> by_cases h2 : a.2 < b.2
  · rw [mxo_yes h1, mxo_yes h2, mxo_yes (by omega)]
  · rw [mxo_yes h1, mxo_no h2, mxo_yes h1]
  · rw [mxo_no h1, mxo_yes h2]
  · rw [mxo_no h1, mxo_no h2, mxo_no h1, mxo_no (by omega)]
theorem mxo_ge1 (s r : List Int × Int) : s.2 ≤ (mxo s r).2 := by unfold mxo; split <;> omega
theorem mxo_ge2 (s r : List Int × Int) : r.2 ≤ (mxo s r).2 := by unfold mxo; split <;> omega
/-- May i come next? -/
def goes (o : List Int) (i : Nat) : Bool := decide (i ≠ 0) && !hasB o i
theorem goes_no0 (o : List Int) : goes o 0 = false := rfl
theorem goes_pos (o : List Int) {i : Nat} (h : 1 ≤ i) : goes o i = !hasB o i := by
  have : i ≠ 0 := by omega
  simp [goes, this]
/-- What a whole order leads to; none if it fails. -/
def endD (l : List Pool) (o : List Int) : Option (List Int × Int) := if (flowAllR true l o).2.2 = true then some (o, (flowAllR true l o).2.1) else none
/-- The better one, if none has failed. -/
def mxO (s r : Option (List Int × Int)) : Option (List Int × Int) :=
  match s, r with
  | some a, some b => some (mxo a b)
  | _, _ => none
section
variable (l : List Pool)
/-- The best order that continues o: the reference. -/
def contD : Nat → List Int → Option (List Int × Int)
  | 0, o => endD l o
  | f + 1, o => foldN (fun i s => if goes o i = true then mxO s (contD f (o ++ [(i : Int)])) else s) (some ([], -1)) l.length
/-- What has been found behind the first k ways to go on. -/
def contDK (f : Nat) (o : List Int) (k : Nat) : Option (List Int × Int) := foldN (fun i s => if goes o i = true then mxO s (contD l f (o ++ [(i : Int)])) else s) (some ([], -1)) k
/-- What the program holds: the best order, what it saves, and whether all were good. -/
def finD (o : List Int) (s : (List Int × Int) × Bool) : (List Int × Int) × Bool := (mxo s.1 (o, (flowAllR true l o).2.1), s.2 && (flowAllR true l o).2.2)
def visD : Nat → List Int → (List Int × Int) × Bool → (List Int × Int) × Bool
  | 0, o, s => finD l o s
  | f + 1, o, s => foldN (fun i t => if goes o i = true then visD f (o ++ [(i : Int)]) t else t) s l.length
end
def wrapD : Option (List Int × Int) → (List Int × Int) × Bool
  | some r => (r, true)
  | none => (([], 0), false)
/-- What BestDrain hands back. -/
def bestDR (l : List Pool) : (List Int × Int) × Bool := if poolsOk l = true then wrapD (contD l (l.length - 1) []) else (([], 0), false)
section
variable {l : List Pool}
theorem contDK_no {f : Nat} {o : List Int} {k : Nat} (h : goes o k = false) : contDK l f o (k + 1) = contDK l f o k := by
  rw [contDK, foldN_one, h]; rfl
theorem contDK_yes {f : Nat} {o : List Int} {k : Nat} (h : goes o k = true) : contDK l f o (k + 1) = mxO (contDK l f o k) (contD l f (o ++ [(k : Int)])) := by
  rw [contDK, foldN_one, if_pos h]; rfl
theorem contDK_end {f : Nat} {o : List Int} {n : Nat} (h : l.length = n) : contD l (f + 1) o = contDK l f o n := by
  rw [contD, contDK, h]
theorem contDK_one (f : Nat) (o : List Int) : contDK l f o 1 = some ([], -1) := rfl
theorem snoc_len (o : List Int) (x : Int) : (o ++ [x]).length = o.length + 1 := by simp
theorem mxO_none (s : Option (List Int × Int)) : mxO s none = none := by cases s <;> rfl
/-- Once an order has failed, all is lost. -/
theorem contDK_none {f : Nat} {o : List Int} {k : Nat} (h : contDK l f o k = none) : ∀ n, k ≤ n → contDK l f o n = none := by
  intro n hn
  induction n with
  | zero => have : k = 0 := by omega
            subst this; exact h
  | succ n ih =>
    by_cases e : k = n + 1
    · subst e; exact h
    · have h2 := ih (by omega)
      cases hg : goes o n
      · rw [contDK_no hg]; exact h2
      · rw [contDK_yes hg, h2]; rfl
/-- The numbers 1 .. n - 1. -/
theorem sub_len : ∀ (l S : List Nat), l.Nodup → (∀ x ∈ l, x ∈ S) → l.length ≤ S.length := by
  intro l
  induction l with
  | nil => intro S _ _; simp
  | cons x l ih =>
    intro S hn hs
    have hx : x ∈ S := hs x (by simp)
    have hn' := List.nodup_cons.1 hn
    have h2 := ih (S.erase x) hn'.2 (fun y hy => (List.mem_erase_of_ne (fun e => hn'.1 (by rw [← e]; exact hy))).2 (hs y (by simp [hy])))
    rw [List.length_erase_of_mem hx] at h2
    have : 0 < S.length := List.length_pos_of_mem hx
    simp only [List.length_cons]
    omega
/-- An order that isn't whole can be continued. -/
theorem goes_on {n : Nat} {o : List Int} (h : o.length + 1 < n) : ∃ i, i < n ∧ goes o i = true := by
  by_cases hx : ∃ i, i < n ∧ goes o i = true
  · exact hx
  · exfalso
    have h1 : ∀ x ∈ List.range n, x ∈ 0 :: o.map Int.toNat := by
      intro x hx'
      have hxn := List.mem_range.1 hx'
      by_cases e : x = 0
      · simp [e]
      · have : goes o x ≠ true := fun hg => hx ⟨x, hxn, hg⟩
        have hh : hasB o x = true := by
          cases hh : hasB o x
          · exact absurd (by rw [goes_pos o (by omega), hh]; rfl) this
          · rfl
        exact List.mem_cons_of_mem _ (List.mem_map.2 ⟨_, hasB_iff.1 hh, by omega⟩)
    have := sub_len _ _ List.nodup_range h1
    simp at this
    omega
theorem cut_same {n : Nat} {o : List Int} {x : Int} : upTo (ordAt n (o ++ [x])) (o ++ [x]) o.length = upTo (ordAt n o) o o.length := by
  have : ∀ k, k ≤ o.length → upTo (ordAt n (o ++ [x])) (o ++ [x]) k = upTo (ordAt n o) o k := by
    intro k
    induction k with
    | zero => intro _; rfl
    | succ k ih =>
      intro hk
      have e : (o ++ [x])[k]? = o[k]? := List.getElem?_append_left (by omega)
      simp only [upTo]
      rw [ih (by omega), e]
      cases o[k]? with
      | none => rfl
      | some y => simp only [ordAt, List.take_append_of_le_length (show k ≤ o.length by omega)]
  exact this _ (Nat.le_refl _)
theorem order_snoc {n : Nat} {o : List Int} {i : Nat} (h : orderOk n o = true) (hi : i < n) (hg : goes o i = true) : orderOk n (o ++ [(i : Int)]) = true := by
  unfold orderOk at *
  rw [snoc_len, upTo_one (by simp : (o ++ [(i : Int)])[o.length]? = some (i : Int)), cut_same, h, Bool.true_and]
  have h1 : i ≠ 0 := by intro e; subst e; cases hg
  rw [goes_pos o (by omega)] at hg
  simp only [ordAt, List.take_append_of_le_length (Nat.le_refl _), List.take_length, Bool.and_eq_true]
  exact ⟨inB_iff.2 ⟨by omega, by omega⟩, hg⟩
theorem order_at {n : Nat} {o : List Int} (h : orderOk n o = true) (k : Nat) (hk : k < o.length) : 1 ≤ o[k] ∧ o[k] < n ∧ o[k] ∉ o.take k := by
  have := upTo_at h hk (List.getElem?_eq_getElem hk)
  simp only [ordAt, Bool.and_eq_true, inB_iff, Bool.not_eq_true', hasB_no] at this
  exact ⟨this.1.1, by omega, this.2⟩
theorem order_nodup {n : Nat} {o : List Int} (h : orderOk n o = true) : (o.map Int.toNat).Nodup := by
  rw [List.nodup_iff_pairwise_ne, List.pairwise_iff_getElem]
  intro i j hi hj hij e
  simp only [List.length_map] at hi hj
  simp only [List.getElem_map] at e
  have h1 := order_at h i hi
  have h2 := order_at h j hj
  have : o[i] = o[j] := by omega
  exact h2.2.2 (by rw [← this]; exact List.mem_take_iff_getElem.2 ⟨i, by omega, rfl⟩)
theorem order_rng {n : Nat} {o : List Int} (h : orderOk n o = true) : ∀ x ∈ o, 1 ≤ x ∧ x < n := by
  intro x hx
  obtain ⟨k, hk, e⟩ := List.getElem_of_mem hx
  have := order_at h k hk
  rw [e] at this
  exact ⟨this.1, this.2.1⟩
/-- A whole order holds all. -/
theorem order_full {n : Nat} {o : List Int} (h : orderOk n o = true) (hl : o.length + 1 = n) {i : Nat} (hi : i < n) : goes o i = false := by
  cases hg : goes o i
  · rfl
  · exfalso
    have h1 : i ≠ 0 := by intro e; subst e; cases hg
    rw [goes_pos o (by omega)] at hg
    simp only [Bool.not_eq_true', hasB_no] at hg
    have hn : (0 :: i :: o.map Int.toNat).Nodup := by
      refine List.nodup_cons.2 ⟨?_, List.nodup_cons.2 ⟨?_, order_nodup h⟩⟩
      · intro hm
        rcases List.mem_cons.1 hm with e | hm
        · omega
        · obtain ⟨y, hy, e⟩ := List.mem_map.1 hm
          have := order_rng h y hy
          omega
      · intro hm
        obtain ⟨y, hy, e⟩ := List.mem_map.1 hm
        have := order_rng h y hy
        exact hg (by rw [show (i : Int) = y by omega]; exact hy)
    have := sub_len _ (List.range n) hn (by
      intro x hx
      rw [List.mem_range]
      rcases List.mem_cons.1 hx with e | hx
      · omega
      · rcases List.mem_cons.1 hx with e | hx
        · omega
        · obtain ⟨y, hy, e⟩ := List.mem_map.1 hx
          have := order_rng h y hy
          omega)
    simp at this
    omega
theorem order_nil (n : Nat) : orderOk n [] = true := rfl
theorem trip {α β : Type} {a : α × β × Bool} (h : a.2.2 = true) : a = (a.1, a.2.1, true) := by rw [← h]
/-- What a whole order leads to. -/
theorem end_some {o : List Int} {r : List Int × Int} (h : endD l o = some r) : r = (o, (flowAllR true l o).2.1) ∧ (flowAllR true l o).2.2 = true ∧ 0 ≤ r.2 ∧ r.2 ≤ 100000 := by
  unfold endD at h
  split at h
  · rename_i h1
    have e := Option.some.inj h
    have := saved_bd (l := l) (o := o) (r := (flowAllR true l o).1) (v := (flowAllR true l o).2.1) (trip h1)
    rw [← e]
    exact ⟨rfl, h1, this.2⟩
  · cases h
theorem end_none {o : List Int} (h : endD l o = none) : (flowAllR true l o).2.2 = false := by
  unfold endD at h
  split at h
  · cases h
  · rename_i h1; simpa using h1
/-- An order that fails saves nothing. -/
theorem fail_zero {d : Bool} {l : List Pool} {o : List Int} (h : (flowAllR d l o).2.2 = false) : (flowAllR d l o).2.1 = 0 := by
  unfold flowAllR at *
  split
  · rename_i h1
    rw [if_pos h1] at h
    split
    · rename_i h2
      rw [h2] at h
      cases h
    · rfl
  · rfl
theorem saved_all (l : List Pool) (o : List Int) : 0 ≤ (flowAllR true l o).2.1 ∧ (flowAllR true l o).2.1 ≤ 100000 := by
  cases h : (flowAllR true l o).2.2
  · rw [fail_zero h]; omega
  · exact (saved_bd (l := l) (o := o) (r := (flowAllR true l o).1) (v := (flowAllR true l o).2.1) (trip h)).2
/-- A property of all that is found. -/
theorem contDK_all {f : Nat} {o : List Int} (Q : List Int × Int → Prop) : ∀ k, (∀ i r, i < k → goes o i = true → contD l f (o ++ [(i : Int)]) = some r → Q r) → ∀ r, contDK l f o k = some r → Q r ∨ (r = ([], -1) ∧ ∀ i, i < k → goes o i = true → False) ∨ (r = ([], -1) ∧ ∃ i r', i < k ∧ goes o i = true ∧ contD l f (o ++ [(i : Int)]) = some r' ∧ r'.2 ≤ -1) := by
  intro k
  induction k with
  | zero => intro _ r h; exact .inr (.inl ⟨(Option.some.inj h).symm, fun i hi => by omega⟩)
  | succ k ih =>
    intro hQ r h
    cases hg : goes o k
    · rw [contDK_no hg] at h
      rcases ih (fun i r hi => hQ i r (by omega)) r h with h1 | ⟨h1, h2⟩ | ⟨h1, i, r', hi, h2⟩
      · exact .inl h1
      · refine .inr (.inl ⟨h1, fun i hi hgi => ?_⟩)
        by_cases e : i = k
        · subst e; rw [hg] at hgi; cases hgi
        · exact h2 i (by omega) hgi
      · exact .inr (.inr ⟨h1, i, r', by omega, h2⟩)
    · rw [contDK_yes hg] at h
      cases hs : contDK l f o k with
      | none => rw [hs] at h; cases h
      | some s =>
        cases hr : contD l f (o ++ [(k : Int)]) with
        | none => rw [hs, hr] at h; cases h
        | some r2 =>
          rw [hs, hr] at h
          have e : mxo s r2 = r := Option.some.inj h
          by_cases hlt : s.2 < r2.2
          · rw [mxo_yes hlt] at e
            subst e
            exact .inl (hQ k _ (by omega) hg hr)
          · rw [mxo_no hlt] at e
            subst e
            rcases ih (fun i r hi => hQ i r (by omega)) s hs with h1 | ⟨h1, h2⟩ | ⟨h1, i, r', hi, h2⟩
            · exact .inl h1
            · refine .inr (.inr ⟨h1, k, r2, by omega, hg, hr, ?_⟩)
              rw [h1] at hlt
              simp only at hlt
              omega
            · exact .inr (.inr ⟨h1, i, r', by omega, h2⟩)
/-- What is known of a best order. -/
def Whole (l : List Pool) (r : List Int × Int) : Prop := orderOk l.length r.1 = true ∧ r.1.length + 1 = l.length ∧ 0 ≤ r.2 ∧ r.2 ≤ 100000 ∧ (flowAllR true l r.1).2.1 = r.2 ∧ (flowAllR true l r.1).2.2 = true
theorem contD_whole : ∀ f (o : List Int) r, o.length + f + 1 = l.length → orderOk l.length o = true → contD l f o = some r → Whole l r := by
  intro f
  induction f with
  | zero =>
    intro o r hl ho h
    obtain ⟨e, h1, h2, h3⟩ := end_some h
    subst e
    exact ⟨ho, by omega, h2, h3, rfl, h1⟩
  | succ f ih =>
    intro o r hl ho h
    rw [contDK_end rfl] at h
    have hstep : ∀ i r, i < l.length → goes o i = true → contD l f (o ++ [(i : Int)]) = some r → Whole l r := fun i r hi hg hr => ih _ r (by rw [snoc_len]; omega) (order_snoc ho hi hg) hr
    rcases contDK_all (Whole l) _ hstep r h with h1 | ⟨_, h2⟩ | ⟨_, i, r', hi, h2, h3, h4⟩
    · exact h1
    · obtain ⟨i, hi, hg⟩ := goes_on (n := l.length) (o := o) (by omega)
      exact (h2 i hi hg).elim
    · have := (hstep i r' hi h2 h3).2.2.1
      omega
/-- What is known behind the first ways to go on. -/
theorem contDK_bd {f : Nat} {o : List Int} (hl : o.length + f + 2 = l.length) (ho : orderOk l.length o = true) {k : Nat} (hk : k ≤ l.length) {r : List Int × Int} (h : contDK l f o k = some r) : -1 ≤ r.2 ∧ r.2 ≤ 100000 := by
  have hstep : ∀ i r, i < k → goes o i = true → contD l f (o ++ [(i : Int)]) = some r → Whole l r := fun i r hi hg hr => contD_whole f _ r (by rw [snoc_len]; omega) (order_snoc ho (by omega) hg) hr
  rcases contDK_all (Whole l) k hstep r h with h1 | ⟨rfl, _⟩ | ⟨rfl, _⟩
  · have := h1.2.2
    omega
  · simp
  · simp
/-- Visiting all sequences finds what continuing them finds. -/
def Found (s : (List Int × Int) × Bool) (c : Option (List Int × Int)) (t : (List Int × Int) × Bool) : Prop :=
  -1 ≤ t.1.2 ∧ match c with
  | some r => t = (mxo s.1 r, s.2)
  | none => t.2 = false
theorem visD_false : ∀ f (o : List Int) (s : (List Int × Int) × Bool), s.2 = false → (visD l f o s).2 = false := by
  intro f
  induction f with
  | zero => intro o s h; simp [visD, finD, h]
  | succ f ih =>
    intro o s h
    rw [visD]
    generalize l.length = n
    induction n with
    | zero => exact h
    | succ n ihn =>
      rw [foldN_one]
      split
      · exact ih _ _ ihn
      · exact ihn
theorem visD_found : ∀ f (o : List Int) s, -1 ≤ s.1.2 → Found s (contD l f o) (visD l f o s) := by
  intro f
  induction f with
  | zero =>
    intro o s hs
    have hp := saved_all l o
    rw [contD, visD, finD]
    refine ⟨by have := mxo_ge1 s.1 (o, (flowAllR true l o).2.1); simp only; omega, ?_⟩
    cases h : endD l o with
    | none => simp only; rw [end_none h]; simp
    | some r =>
      obtain ⟨e, h1, h2⟩ := end_some h
      simp only
      rw [h1, e, Bool.and_true]
  | succ f ih =>
    intro o s hs
    rw [contD, visD]
    generalize l.length = n
    induction n with
    | zero => exact ⟨hs, by show _ = _; rw [mxo_no (by simp only; omega)]; rfl⟩
    | succ n ihn =>
      rw [foldN_one, foldN_one]
      cases hg : goes o n
      · exact ihn
      · simp only [if_true]
        generalize foldN (fun i s => if goes o i = true then mxO s (contD l f (o ++ [(i : Int)])) else s) (some ([], -1)) n = c at ihn
        generalize foldN (fun i t => if goes o i = true then visD l f (o ++ [(i : Int)]) t else t) s n = t at ihn
        obtain ⟨h1, h2⟩ := ihn
        have h3 := ih (o ++ [(n : Int)]) t h1
        cases c with
        | none => exact ⟨h3.1, visD_false f _ _ h2⟩
        | some r =>
          simp only at h2
          cases hr : contD l f (o ++ [(n : Int)]) with
          | none =>
            rw [hr] at h3
            exact h3
          | some r2 =>
            rw [hr] at h3
            refine ⟨h3.1, ?_⟩
            show _ = _
            have h4 : visD l f (o ++ [(n : Int)]) t = (mxo t.1 r2, t.2) := h3.2
            rw [h4, h2, mxo_assoc]
theorem visD_all (l : List Pool) (f : Nat) : Found (([], -1), true) (contD l f []) (visD l f [] (([], -1), true)) := visD_found f [] _ (by simp)
/-- No whole order saves more than the best one. -/
theorem contDK_ge {f : Nat} {o : List Int} : ∀ k r, contDK l f o k = some r → ∀ i, i < k → goes o i = true → ∃ r', contD l f (o ++ [(i : Int)]) = some r' ∧ r'.2 ≤ r.2 := by
  intro k
  induction k with
  | zero => intro r _ i hi; omega
  | succ k ih =>
    intro r h i hi hgi
    cases hg : goes o k
    · rw [contDK_no hg] at h
      by_cases e : i = k
      · subst e; rw [hg] at hgi; cases hgi
      · exact ih r h i (by omega) hgi
    · rw [contDK_yes hg] at h
      cases hs : contDK l f o k with
      | none => rw [hs] at h; cases h
      | some s =>
        cases hr : contD l f (o ++ [(k : Int)]) with
        | none => rw [hs, hr] at h; cases h
        | some r2 =>
          rw [hs, hr] at h
          have e : mxo s r2 = r := Option.some.inj h
          subst e
          by_cases e : i = k
          · subst e; exact ⟨r2, hr, mxo_ge2 _ _⟩
          · obtain ⟨r', h1, h2⟩ := ih s hs i (by omega) hgi
            exact ⟨r', h1, Int.le_trans h2 (mxo_ge1 _ _)⟩
theorem contD_best : ∀ f (o : List Int) r, o.length + f + 1 = l.length → orderOk l.length o = true → contD l f o = some r → ∀ q : List Int, orderOk l.length q = true → q.length + 1 = l.length → q.take o.length = o → (flowAllR true l q).2.1 ≤ r.2 := by
  intro f
  induction f with
  | zero =>
    intro o r hl ho h q hq hql he
    rw [List.take_of_length_le (by omega)] at he
    obtain ⟨e, _⟩ := end_some h
    rw [he, e]
    exact Int.le_refl _
  | succ f ih =>
    intro o r hl ho h q hq hql he
    rw [contDK_end rfl] at h
    have hlt : o.length < q.length := by omega
    have hx : q[o.length]? = some (q[o.length]'hlt) := List.getElem?_eq_getElem hlt
    obtain ⟨x0, x1, x2⟩ := order_at hq o.length hlt
    generalize q[o.length]'hlt = x at *
    obtain ⟨i, rfl⟩ := Int.eq_ofNat_of_zero_le (a := x) (by omega)
    rw [he] at x2
    have hi : i < l.length := by omega
    have hg : goes o i = true := by rw [goes_pos o (by omega), hasB_no.2 x2]; rfl
    obtain ⟨r', h1, h2⟩ := contDK_ge _ r h i hi hg
    have := ih (o ++ [(i : Int)]) r' (by rw [snoc_len]; omega) (order_snoc ho hi hg) h1 q hq hql (by rw [snoc_len, take_one hx, he])
    omega
/-- What BestDrain hands back is a whole order that saves most. -/
theorem bestDR_facts {r : List Int × Int} (h : bestDR l = (r, true)) : poolsOk l = true ∧ Whole l r ∧ ∀ q : List Int, orderOk l.length q = true → q.length + 1 = l.length → (flowAllR true l q).2.1 ≤ r.2 := by
  unfold bestDR at h
  split at h
  · rename_i hok
    have hlen := len_ok hok
    cases hc : contD l (l.length - 1) [] with
    | none => rw [hc] at h; simp [wrapD] at h
    | some s =>
      rw [hc] at h
      have e : s = r := (Prod.mk.inj h).1
      subst e
      exact ⟨hok, contD_whole _ _ _ (by simp; omega) (order_nil _) hc, fun q hq hql => contD_best _ _ _ (by simp; omega) (order_nil _) hc q hq hql (by simp)⟩
  · simp at h
end
end Go.Proofs.Yteejalanjeeecaa
