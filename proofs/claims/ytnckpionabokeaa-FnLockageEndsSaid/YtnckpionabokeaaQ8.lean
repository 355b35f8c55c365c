/- Plain laws on arrivals and orders: no inversion is the same as that all before have begun. No program in sight. -/
import Derived.Test.YtnckpionabokeaaC8
import Derived.Test.YtnckpionabokeaaInts
namespace Go.Proofs.Ytnckpionabokeaa
open Go.RowKit
def noArr : Arrival := ⟨0, false, 0, 0⟩
def arrAtI (l : List Arrival) (x : Int) : Arrival := (l[x.toNat]?).getD noArr
theorem arrAtI_nat {l : List Arrival} {i : Nat} {a : Arrival} (h : l[i]? = some a) : arrAtI l (i : Int) = a := by simp [arrAtI, h]
def befA (a b : Arrival) : Bool := decide (a.Minute < b.Minute) || (decide (a.Minute = b.Minute) && decide (a.Id < b.Id))
/-- b goes the way of a, and ahead of it. -/
def ahead (l : List Arrival) (b a : Int) : Bool := decide ((arrAtI l b).Up = (arrAtI l a).Up) && befA (arrAtI l b) (arrAtI l a)
def fresh (n : Nat) (o : List Int) (k : Nat) (x : Int) : Bool := inB x 0 ((n : Int) - 1) && !hasB (o.take k) x
def implAt (l : List Arrival) (o : List Int) (k : Nat) (x : Int) : Bool := fresh l.length o k x && !(o.take k).any (fun b => ahead l x b)
def nextOk (l : List Arrival) (o : List Int) (x : Int) : Bool := (List.range l.length).all fun m => decide ((m : Int) = x) || !ahead l m x || hasB o m
def specAt (l : List Arrival) (o : List Int) (k : Nat) (x : Int) : Bool := fresh l.length o k x && nextOk l (o.take k) x
def implOrd (l : List Arrival) (o : List Int) : Bool := arrOk l && decide (o.length = l.length) && upTo (implAt l o) o o.length
def specOrd (l : List Arrival) (o : List Int) : Bool := arrOk l && decide (o.length = l.length) && upTo (specAt l o) o o.length
theorem befA_asymm {a b : Arrival} (h : befA a b = true) : befA b a = false := by
  simp only [befA, Bool.or_eq_true, Bool.and_eq_true, decide_eq_true_eq, Bool.or_eq_false_iff, Bool.and_eq_false_iff, decide_eq_false_iff_not] at *
  omega
theorem ahead_asymm {l : List Arrival} {a b : Int} (h : ahead l a b = true) : ahead l b a = false := by
  simp only [ahead, Bool.and_eq_true, decide_eq_true_eq] at h
  simp only [ahead, befA_asymm h.2, Bool.and_false]
theorem upTo_all {α : Type} {P : Nat → α → Bool} {l : List α} : ∀ k, (∀ i p, i < k → l[i]? = some p → P i p = true) → upTo P l k = true := by
  intro k
  induction k with
  | zero => intro _; rfl
  | succ k ih =>
    intro h
    simp only [upTo, Bool.and_eq_true]
    refine ⟨ih fun i p hi hp => h i p (by omega) hp, ?_⟩
    cases e : l[k]? with
    | none => rfl
    | some p => exact h k p (by omega) e
/-- As many different elements as S has, all of S: then S is no longer than they. -/
theorem sub_len : ∀ (l S : List Nat), l.Nodup → (∀ x ∈ l, x ∈ S) → l.length ≤ S.length := by
  intro l
  induction l with
  | nil => intro S _ _; simp
  | cons x l ih =>
    intro S hn hs
    have hx : x ∈ S := hs x (by simp)
    have hn' := List.nodup_cons.1 hn
    have h2 := ih (S.erase x) hn'.2 (fun y hy => (List.mem_erase_of_ne (fun e => hn'.1 (by rw [← e]; exact hy))).2 (hs y (by simp [hy])))
    rw [List.length_erase_of_mem hx] at h2
    have : 0 < S.length := List.length_pos_of_mem hx
    simp only [List.length_cons]
    omega
/-- n different numbers below n are all of them. -/
theorem all_there {o : List Int} {n : Nat} (hl : o.length = n) (hf : upTo (fresh n o) o o.length = true) {m : Nat} (hm : m < n) : ∃ p : Nat, o[p]? = some (m : Int) := by
  have hat : ∀ (k : Nat) (hk : k < o.length), 0 ≤ o[k] ∧ o[k] < n ∧ o[k] ∉ o.take k := by
    intro k hk
    have := upTo_at hf hk (List.getElem?_eq_getElem hk)
    simp only [fresh, Bool.and_eq_true, inB_iff, Bool.not_eq_true', hasB_no] at this
    exact ⟨this.1.1, by omega, this.2⟩
  by_cases h : (m : Int) ∈ o
  · obtain ⟨p, hp, e⟩ := List.getElem_of_mem h
    exact ⟨p, by rw [List.getElem?_eq_getElem hp, e]⟩
  · exfalso
    have hn : (o.map Int.toNat).Nodup := by
      rw [List.nodup_iff_pairwise_ne, List.pairwise_iff_getElem]
      intro i j hi hj hij e
      simp only [List.length_map] at hi hj
      simp only [List.getElem_map] at e
      have h1 := hat i hi
      have h2 := hat j hj
      have : o[i] = o[j] := by omega
      exact h2.2.2 (by rw [← this]; exact List.mem_take_iff_getElem.2 ⟨i, by omega, rfl⟩)
    have hs := sub_len (o.map Int.toNat) ((List.range n).erase m) hn (by
      intro x hx
      obtain ⟨y, hy, rfl⟩ := List.mem_map.1 hx
      obtain ⟨k, hk, e⟩ := List.getElem_of_mem hy
      have h1 := hat k hk
      rw [e] at h1
      exact (List.mem_erase_of_ne (by intro e2; apply h; rw [show (m : Int) = y by omega]; exact hy)).2 (List.mem_range.2 (by omega)))
    rw [List.length_map, List.length_erase_of_mem (List.mem_range.2 hm), List.length_range, hl] at hs
    omega
theorem fresh_spec {l : List Arrival} {o : List Int} (h : upTo (specAt l o) o o.length = true) : upTo (fresh l.length o) o o.length = true :=
  upTo_all _ fun i p hi hp => by have := upTo_at h hi hp; simp only [specAt, Bool.and_eq_true] at this; exact this.1
theorem fresh_impl {l : List Arrival} {o : List Int} (h : upTo (implAt l o) o o.length = true) : upTo (fresh l.length o) o o.length = true :=
  upTo_all _ fun i p hi hp => by have := upTo_at h hi hp; simp only [implAt, Bool.and_eq_true] at this; exact this.1
theorem ord_same (l : List Arrival) (o : List Int) : specOrd l o = implOrd l o := by
  unfold specOrd implOrd
  by_cases hl : o.length = l.length
  case neg => simp [hl]
  congr 1
  rw [Bool.eq_iff_iff]
  constructor
  · intro h
    have hf := fresh_spec h
    refine upTo_all _ fun k x hk hx => ?_
    have hfx := upTo_at hf hk hx
    simp only [implAt, hfx, Bool.true_and, Bool.not_eq_true']
    rw [List.any_eq_false]
    intro b hb ha
    obtain ⟨j, hj, e⟩ := List.mem_take_iff_getElem.1 hb
    have hjk : j < k := by omega
    have hjl : j < o.length := by omega
    have hb' : o[j]? = some b := by rw [List.getElem?_eq_getElem hjl, e]
    have hs := upTo_at h hjl hb'
    simp only [specAt, Bool.and_eq_true] at hs
    have hn := hs.2
    simp only [fresh, Bool.and_eq_true, inB_iff, Bool.not_eq_true', hasB_no] at hfx
    rw [nextOk, List.all_eq_true] at hn
    have := hn x.toNat (List.mem_range.2 (by omega))
    have ex : ((x.toNat : Nat) : Int) = x := by omega
    rw [ex, ha] at this
    simp only [Bool.not_true, Bool.or_false, Bool.or_eq_true, decide_eq_true_eq, hasB_iff] at this
    rcases this with e1 | e1
    · subst e1
      exact hfx.2 (List.mem_take_iff_getElem.2 ⟨j, by omega, e⟩)
    · exact hfx.2 (by
        obtain ⟨i, hi, ei⟩ := List.mem_take_iff_getElem.1 e1
        exact List.mem_take_iff_getElem.2 ⟨i, by omega, ei⟩)
  · intro h
    have hf := fresh_impl h
    refine upTo_all _ fun k x hk hx => ?_
    have hfx := upTo_at hf hk hx
    simp only [specAt, hfx, Bool.true_and]
    rw [nextOk, List.all_eq_true]
    intro m hm
    have hm := List.mem_range.1 hm
    by_cases e : (m : Int) = x
    · simp [e]
    cases ha : ahead l m x
    · simp
    simp only [e, decide_false, Bool.not_true, Bool.or_self, Bool.false_or, hasB_iff]
    obtain ⟨p, hp⟩ := all_there hl hf hm
    have hpl : p < o.length := (List.getElem?_eq_some_iff.1 hp).1
    have hpk : p ≠ k := by
      intro e2
      subst e2
      rw [hx] at hp
      exact e (Option.some.inj hp).symm
    by_cases hlt : p < k
    · exact List.mem_take_iff_getElem.2 ⟨p, by omega, (List.getElem?_eq_some_iff.1 hp).2⟩
    · exfalso
      have := upTo_at h hpl hp
      simp only [implAt, Bool.and_eq_true, Bool.not_eq_true'] at this
      have h2 := this.2
      rw [List.any_eq_false] at h2
      exact h2 x (List.mem_take_iff_getElem.2 ⟨k, by omega, (List.getElem?_eq_some_iff.1 hx).2⟩) ha
/-! ### what is known of a valid order -/
theorem ord_parts {l : List Arrival} {o : List Int} (h : implOrd l o = true) : arrOk l = true ∧ o.length = l.length ∧ ∀ (k : Nat) (x : Int), o[k]? = some x → 0 ≤ x ∧ x < l.length := by
  simp only [implOrd, Bool.and_eq_true, decide_eq_true_eq] at h
  refine ⟨h.1.1, h.1.2, fun k x hx => ?_⟩
  have hk : k < o.length := (List.getElem?_eq_some_iff.1 hx).1
  have := upTo_at (fresh_impl h.2) hk hx
  simp only [fresh, Bool.and_eq_true, inB_iff] at this
  omega
theorem arr_len {l : List Arrival} (h : arrOk l = true) : l.length ≤ 6 := by simp only [arrOk, Bool.and_eq_true, decide_eq_true_eq] at h; exact h.1
theorem arr_bd {l : List Arrival} (h : arrOk l = true) {i : Nat} {a : Arrival} (hi : l[i]? = some a) : (1 ≤ a.Id ∧ a.Id ≤ 99) ∧ (0 ≤ a.Minute ∧ a.Minute ≤ 9999) ∧ 1 ≤ a.Weight ∧ a.Weight ≤ 9 := by
  simp only [arrOk, Bool.and_eq_true] at h
  have := upTo_at h.2 (List.getElem?_eq_some_iff.1 hi).1 hi
  simp only [arrAt, vArr, Bool.and_eq_true, inB_iff] at this
  exact ⟨this.1.1.1, this.1.1.2, this.1.2⟩
/-! ### times -/
structure Ts where
  free : Int
  high : Bool
  turns : Int
  out : List Int
def stepT (mi : Int) (s : Ts) (a : Arrival) : Ts :=
  ⟨max (if a.Up = s.high then s.free + mi else s.free) a.Minute + mi, a.Up, if a.Up = s.high then s.turns + 1 else s.turns, s.out ++ [max (if a.Up = s.high then s.free + mi else s.free) a.Minute]⟩
theorem stepT_eq {mi : Int} {s : Ts} {a : Arrival} (h : a.Up = s.high) : stepT mi s a = ⟨max (s.free + mi) a.Minute + mi, a.Up, s.turns + 1, s.out ++ [max (s.free + mi) a.Minute]⟩ := by simp [stepT, h]
theorem stepT_ne {mi : Int} {s : Ts} {a : Arrival} (h : ¬ a.Up = s.high) : stepT mi s a = ⟨max s.free a.Minute + mi, a.Up, s.turns, s.out ++ [max s.free a.Minute]⟩ := by simp [stepT, h]
def runT (l : List Arrival) (mi : Int) (high : Bool) (o : List Int) : Ts := o.foldl (fun s x => stepT mi s (arrAtI l x)) ⟨0, high, 0, []⟩
theorem runT_one {l : List Arrival} {mi : Int} {high : Bool} {o : List Int} {k : Nat} {x : Int} (h : o[k]? = some x) : runT l mi high (o.take (k + 1)) = stepT mi (runT l mi high (o.take k)) (arrAtI l x) := by
  rw [take_one h, runT, List.foldl_append]; rfl
/-- What is known behind k lockages. -/
structure Tk (k : Nat) (s : Ts) : Prop where
  f0 : 0 ≤ s.free
  f1 : s.free ≤ 9999 + 120 * (k : Int)
  t0 : 0 ≤ s.turns
  t1 : s.turns ≤ k
  len : s.out.length = k
  out : ∀ (i : Nat) (t : Int), s.out[i]? = some t → 0 ≤ t ∧ t ≤ 9999 + 120 * (k : Int)
theorem tk_zero (high : Bool) : Tk 0 ⟨0, high, 0, []⟩ := ⟨by simp, by simp, by simp, by simp, rfl, fun i t h => by simp at h⟩
theorem tk_step {k : Nat} {s : Ts} {mi : Int} {a : Arrival} (h : Tk k s) (m0 : 1 ≤ mi) (m1 : mi ≤ 60) (a0 : 0 ≤ a.Minute) (a1 : a.Minute ≤ 9999) : Tk (k + 1) (stepT mi s a) := by
  obtain ⟨f0, f1, t0, t1, len, out⟩ := h
  refine ⟨?_, ?_, ?_, ?_, by simp [stepT, len], ?_⟩
  · simp only [stepT]; split <;> omega
  · simp only [stepT]; split <;> omega
  · simp only [stepT]; split <;> omega
  · simp only [stepT]; split <;> omega
  · intro i t ht
    simp only [stepT] at ht
    by_cases hi : i < k
    · rw [List.getElem?_append_left (by omega)] at ht
      have := out i t ht
      omega
    · rw [List.getElem?_append_right (by omega)] at ht
      have hi2 : i - s.out.length = 0 := by
        have := (List.getElem?_eq_some_iff.1 ht).1
        simp at this
        omega
      rw [hi2] at ht
      have := Option.some.inj ht
      subst this
      split <;> omega
/-! ### delays -/
def lossAt (l : List Arrival) (o ts : List Int) (k : Nat) : Int :=
  match o[k]?, ts[k]? with
  | some x, some t => (arrAtI l x).Weight * (t - (arrAtI l x).Minute)
  | _, _ => 0
def lossK (l : List Arrival) (o ts : List Int) : Nat → Int
  | 0 => 0
  | k + 1 => lossK l o ts k + lossAt l o ts k
def delayZ (l : List Arrival) (high : Bool) (mi : Int) (o : List Int) : Int := lossK l o (runT l mi high o).out o.length
theorem lossAt_eq {l : List Arrival} {o ts : List Int} {k i : Nat} {t : Int} {a : Arrival} (h : o[k]? = some (i : Int)) (ht : ts[k]? = some t) (ha : l[i]? = some a) : lossAt l o ts k = a.Weight * (t - a.Minute) := by
  simp [lossAt, h, ht, arrAtI_nat ha]
theorem tk_run {l : List Arrival} {mi : Int} {high : Bool} {o : List Int} (hr : ∀ (k : Nat) (x : Int), o[k]? = some x → 0 ≤ x ∧ x < l.length) (hv : ∀ (i : Nat) (a : Arrival), l[i]? = some a → 0 ≤ a.Minute ∧ a.Minute ≤ 9999) (m0 : 1 ≤ mi) (m1 : mi ≤ 60) : ∀ k, k ≤ o.length → Tk k (runT l mi high (o.take k)) := by
  intro k
  induction k with
  | zero => intro _; exact tk_zero high
  | succ k ih =>
    intro hk
    have hx : o[k]? = some (o[k]'(by omega)) := List.getElem?_eq_getElem (by omega)
    generalize o[k]'(by omega) = x at hx
    obtain ⟨h0, h1⟩ := hr k x hx
    obtain ⟨i, rfl⟩ := Int.eq_ofNat_of_zero_le h0
    have ha : l[i]? = some (l[i]'(by omega)) := List.getElem?_eq_getElem (by omega)
    generalize l[i]'(by omega) = a at ha
    rw [runT_one hx, arrAtI_nat ha]
    exact tk_step (ih (by omega)) m0 m1 (hv i a ha).1 (hv i a ha).2
theorem mul_abs {x y : Int} (x0 : 0 ≤ x) (x1 : x ≤ 9) (y0 : -20000 ≤ y) (y1 : y ≤ 1000000000) : -180000 ≤ x * y ∧ x * y ≤ 9000000000 := by
  have e : x = 0 ∨ x = 1 ∨ x = 2 ∨ x = 3 ∨ x = 4 ∨ x = 5 ∨ x = 6 ∨ x = 7 ∨ x = 8 ∨ x = 9 := by omega
  rcases e with rfl | rfl | rfl | rfl | rfl | rfl | rfl | rfl | rfl | rfl <;> omega
theorem loss_bd {l : List Arrival} {o ts : List Int} (hr : ∀ (k : Nat) (x : Int), o[k]? = some x → 0 ≤ x ∧ x < l.length) (hv : ∀ (i : Nat) (a : Arrival), l[i]? = some a → 0 ≤ a.Minute ∧ a.Minute ≤ 9999 ∧ 0 ≤ a.Weight ∧ a.Weight ≤ 9) (ht : ∀ (i : Nat) (t : Int), ts[i]? = some t → 0 ≤ t ∧ t ≤ 1000000000) (hl : ts.length = o.length) : ∀ k, k ≤ o.length → -180000 * (k : Int) ≤ lossK l o ts k ∧ lossK l o ts k ≤ 9000000000 * (k : Int) := by
  intro k
  induction k with
  | zero => intro _; simp [lossK]
  | succ k ih =>
    intro hk
    have hx : o[k]? = some (o[k]'(by omega)) := List.getElem?_eq_getElem (by omega)
    generalize o[k]'(by omega) = x at hx
    have hx2 : ts[k]? = some (ts[k]'(by omega)) := List.getElem?_eq_getElem (by omega)
    generalize ts[k]'(by omega) = t at hx2
    obtain ⟨h0, h1⟩ := hr k x hx
    obtain ⟨i, rfl⟩ := Int.eq_ofNat_of_zero_le h0
    have ha : l[i]? = some (l[i]'(by omega)) := List.getElem?_eq_getElem (by omega)
    generalize l[i]'(by omega) = a at ha
    have e := lossAt_eq (l := l) hx hx2 ha
    have b1 := hv i a ha
    have b2 := ht k t hx2
    have b3 := mul_abs (x := a.Weight) (y := t - a.Minute) b1.2.2.1 b1.2.2.2 (by omega) (by omega)
    have b4 := ih (by omega)
    rw [lossK, e]
    omega
def timesR (l : List Arrival) (high : Bool) (mi : Int) (o : List Int) : List Int × Bool := if implOrd l o = true ∧ inB mi 1 60 = true then ((runT l mi high o).out, true) else ([], false)
def delayR (l : List Arrival) (high : Bool) (mi : Int) (o : List Int) : Int × Bool := if implOrd l o = true ∧ inB mi 1 60 = true then (delayZ l high mi o, true) else (0, false)
def turnsR (l : List Arrival) (high : Bool) (o : List Int) : Int × Bool := if implOrd l o = true then ((runT l 1 high o).turns, true) else (0, false)
def lastR (l : List Arrival) (high : Bool) (mi : Int) (o : List Int) : Int × Bool := if implOrd l o = true ∧ inB mi 1 60 = true then (match (runT l mi high o).out[o.length - 1]? with | some t => (t + mi, true) | none => (0, true)) else (0, false)
end Go.Proofs.Ytnckpionabokeaa
