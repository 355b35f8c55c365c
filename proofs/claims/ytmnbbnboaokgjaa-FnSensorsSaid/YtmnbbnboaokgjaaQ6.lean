/- Plain laws on bounds that sensors give: the trusted one, by the ends of the bounds and by all levels. No program in sight. -/
import Derived.Test.YtmnbbnboaokgjaaTBound
import Derived.Test.YtmnbbnboaokgjaaBase2
namespace Go.Proofs.Ytmnbbnboaokgjaa
open Go.RowKit
def vBnd (b : Bound) : Bool := inB b.Low 0 2000 && inB b.High 0 2000 && !decide (b.High < b.Low)
def bndsOk (l : List Bound) : Bool := inB (l.length : Int) 1 8 && l.all vBnd
def hasLv (x : Int) (b : Bound) : Bool := inB x b.Low b.High
/-- How many of the bounds have a level. -/
def cnt (l : List Bound) (x : Int) : Int := (l.countP (hasLv x) : Nat)
theorem cnt_one {l : List Bound} {k : Nat} {b : Bound} {x : Int} (h : l[k]? = some b) : cnt (l.take (k + 1)) x = if hasLv x b = true then cnt (l.take k) x + 1 else cnt (l.take k) x := by
  rw [cnt, take_one h, List.countP_append]
  by_cases hb : hasLv x b = true
  · rw [if_pos hb]; simp [cnt, hb, List.countP_cons]
  · rw [if_neg hb]; simp [cnt, hb, List.countP_cons]
theorem cnt_rng (l : List Bound) (x : Int) : 0 ≤ cnt l x ∧ cnt l x ≤ l.length := by
  have := List.countP_le_length (p := hasLv x) (l := l)
  unfold cnt
  omega
theorem bnds_len {l : List Bound} (h : bndsOk l = true) : 1 ≤ l.length ∧ l.length ≤ 8 := by
  simp only [bndsOk, Bool.and_eq_true, inB_iff] at h
  omega
theorem bnds_at {l : List Bound} (h : bndsOk l = true) {b : Bound} (hb : b ∈ l) : 0 ≤ b.Low ∧ b.Low ≤ b.High ∧ b.High ≤ 2000 := by
  simp only [bndsOk, Bool.and_eq_true, List.all_eq_true] at h
  have := h.2 b hb
  simp only [vBnd, Bool.and_eq_true, inB_iff, Bool.not_eq_true', decide_eq_false_iff_not] at this
  omega
theorem max_of {α : Type} (f : α → Int) : ∀ S : List α, S ≠ [] → ∃ x ∈ S, ∀ y ∈ S, f y ≤ f x := by
  intro S
  induction S with
  | nil => intro h; exact absurd rfl h
  | cons a S ih =>
    intro _
    by_cases hS : S = []
    · subst hS
      exact ⟨a, by simp, fun y hy => by simp at hy; subst hy; exact Int.le_refl _⟩
    · obtain ⟨x, hx, hm⟩ := ih hS
      by_cases hax : f x ≤ f a
      · exact ⟨a, by simp, fun y hy => by
          rcases List.mem_cons.1 hy with rfl | hy
          · exact Int.le_refl _
          · have := hm y hy; omega⟩
      · exact ⟨x, by simp [hx], fun y hy => by
          rcases List.mem_cons.1 hy with rfl | hy
          · omega
          · exact hm y hy⟩
theorem cnt_pos {l : List Bound} {x : Int} (h : 1 ≤ cnt l x) : l.filter (hasLv x) ≠ [] := by
  intro e
  rw [cnt, List.countP_eq_length_filter, e] at h
  simp at h
theorem cnt_mono {l : List Bound} {x y : Int} (h : ∀ b ∈ l, hasLv x b = true → hasLv y b = true) : cnt l x ≤ cnt l y := by
  have := List.countP_mono_left (l := l) (p := hasLv x) (q := hasLv y) (fun b hb hx => h b hb hx)
  unfold cnt
  omega
/-- A level that some bounds have: the greatest of their lower ends has as many. -/
theorem to_low {l : List Bound} {x : Int} (h : 1 ≤ cnt l x) : ∃ b ∈ l, b.Low ≤ x ∧ cnt l x ≤ cnt l b.Low := by
  obtain ⟨b, hb, hm⟩ := max_of (fun b : Bound => b.Low) _ (cnt_pos h)
  rw [List.mem_filter] at hb
  have hx := inB_iff.1 hb.2
  refine ⟨b, hb.1, hx.1, cnt_mono fun c hc hcx => ?_⟩
  have h1 := hm c (List.mem_filter.2 ⟨hc, hcx⟩)
  have h2 := inB_iff.1 hcx
  exact inB_iff.2 ⟨h1, by omega⟩
theorem to_high {l : List Bound} {x : Int} (h : 1 ≤ cnt l x) : ∃ b ∈ l, x ≤ b.High ∧ cnt l x ≤ cnt l b.High := by
  obtain ⟨b, hb, hm⟩ := max_of (fun b : Bound => -b.High) _ (cnt_pos h)
  rw [List.mem_filter] at hb
  have hx := inB_iff.1 hb.2
  refine ⟨b, hb.1, hx.2, cnt_mono fun c hc hcx => ?_⟩
  have h1 := hm c (List.mem_filter.2 ⟨hc, hcx⟩)
  have h2 := inB_iff.1 hcx
  exact inB_iff.2 ⟨by omega, by omega⟩
/-! ### by all levels: the program -/
structure Tr where
  low : Int
  high : Int
  found : Bool
def stepTr (l : List Bound) (t x : Int) (s : Tr) : Tr := if cnt l x < t then s else if s.found = true then ⟨s.low, x, true⟩ else ⟨x, x, true⟩
theorem stepTr_no {l : List Bound} {t x : Int} {s : Tr} (h : cnt l x < t) : stepTr l t x s = s := if_pos h
theorem stepTr_new {l : List Bound} {t x : Int} {s : Tr} (h : ¬ cnt l x < t) (hf : s.found = false) : stepTr l t x s = ⟨x, x, true⟩ := by rw [stepTr, if_neg h, if_neg (by simp [hf])]
theorem stepTr_on {l : List Bound} {t x : Int} {s : Tr} (h : ¬ cnt l x < t) (hf : s.found = true) : stepTr l t x s = ⟨s.low, x, true⟩ := by rw [stepTr, if_neg h, if_pos hf]
def trK (l : List Bound) (t : Int) : Nat → Tr
  | 0 => ⟨0, 0, false⟩
  | k + 1 => stepTr l t (k : Int) (trK l t k)
theorem tr_char (l : List Bound) (t : Int) : ∀ k, ((trK l t k).found = false → (trK l t k).low = 0 ∧ (trK l t k).high = 0 ∧ ∀ x : Nat, x < k → cnt l (x : Int) < t) ∧
    ((trK l t k).found = true → 0 ≤ (trK l t k).low ∧ (trK l t k).low ≤ (trK l t k).high ∧ (trK l t k).high < k ∧ t ≤ cnt l (trK l t k).low ∧ t ≤ cnt l (trK l t k).high ∧ ∀ x : Nat, x < k → t ≤ cnt l (x : Int) → (trK l t k).low ≤ x ∧ (x : Int) ≤ (trK l t k).high) := by
  intro k
  induction k with
  | zero => exact ⟨fun _ => ⟨rfl, rfl, fun x h => by omega⟩, fun h => by cases h⟩
  | succ k ih =>
    rw [trK]
    by_cases hc : cnt l (k : Int) < t
    · rw [stepTr_no hc]
      refine ⟨fun h => ?_, fun h => ?_⟩
      · obtain ⟨h1, h2, h3⟩ := ih.1 h
        refine ⟨h1, h2, fun x hx => ?_⟩
        by_cases e : x = k
        · subst e; exact hc
        · exact h3 x (by omega)
      · obtain ⟨h1, h2, h3, h4, h5, h6⟩ := ih.2 h
        refine ⟨h1, h2, by omega, h4, h5, fun x hx hcx => ?_⟩
        by_cases e : x = k
        · subst e; omega
        · exact h6 x (by omega) hcx
    · cases hf : (trK l t k).found
      · rw [stepTr_new hc hf]
        obtain ⟨_, _, h3⟩ := ih.1 hf
        refine ⟨(fun h => by cases h), fun _ => ⟨by simp, by simp, by simp; omega, by simp; omega, by simp; omega, fun x hx hcx => ?_⟩⟩
        by_cases e : x = k
        · subst e; simp
        · have := h3 x (by omega); omega
      · rw [stepTr_on hc hf]
        obtain ⟨h1, h2, h3, h4, h5, h6⟩ := ih.2 hf
        refine ⟨(fun h => by cases h), fun _ => ⟨h1, by simp; omega, by simp; omega, h4, by simp; omega, fun x hx hcx => ?_⟩⟩
        by_cases e : x = k
        · subst e; simp; omega
        · have := h6 x (by omega) hcx; simp; omega
/-! ### by the ends of the bounds: the reference -/
def lowStep (l : List Bound) (t : Int) (b : Bound) (s : Int × Bool) : Int × Bool := if t ≤ cnt l b.Low ∧ (s.2 = false ∨ b.Low < s.1) then (b.Low, true) else s
def lowK (l : List Bound) (t : Int) : Nat → Int × Bool
  | 0 => (0, false)
  | k + 1 => match l[k]? with
    | some b => lowStep l t b (lowK l t k)
    | none => lowK l t k
def highStep (l : List Bound) (t : Int) (b : Bound) (s : Int) : Int := if t ≤ cnt l b.High ∧ s < b.High then b.High else s
def highK (l : List Bound) (t : Int) : Nat → Int
  | 0 => 0
  | k + 1 => match l[k]? with
    | some b => highStep l t b (highK l t k)
    | none => highK l t k
theorem lowK_one {l : List Bound} {t : Int} {k : Nat} {b : Bound} (h : l[k]? = some b) : lowK l t (k + 1) = lowStep l t b (lowK l t k) := by simp [lowK, h]
theorem highK_one {l : List Bound} {t : Int} {k : Nat} {b : Bound} (h : l[k]? = some b) : highK l t (k + 1) = highStep l t b (highK l t k) := by simp [highK, h]
theorem low_char (l : List Bound) (t : Int) : ∀ k, k ≤ l.length → ((lowK l t k).2 = false → (lowK l t k).1 = 0 ∧ ∀ (i : Nat) (b : Bound), i < k → l[i]? = some b → cnt l b.Low < t) ∧
    ((lowK l t k).2 = true → (∃ b ∈ l, (lowK l t k).1 = b.Low ∧ t ≤ cnt l b.Low) ∧ ∀ (i : Nat) (b : Bound), i < k → l[i]? = some b → t ≤ cnt l b.Low → (lowK l t k).1 ≤ b.Low) := by
  intro k
  induction k with
  | zero => intro _; exact ⟨fun _ => ⟨rfl, fun i b h => by omega⟩, fun h => by cases h⟩
  | succ k ih =>
    intro hk
    have hx : l[k]? = some (l[k]'(by omega)) := List.getElem?_eq_getElem (by omega)
    have hmem := List.mem_of_getElem? hx
    generalize l[k]'(by omega) = c at hx hmem
    have ih := ih (by omega)
    rw [lowK_one hx, lowStep]
    by_cases hc : t ≤ cnt l c.Low ∧ ((lowK l t k).2 = false ∨ c.Low < (lowK l t k).1)
    · rw [if_pos hc]
      refine ⟨(fun h => by cases h), fun _ => ⟨⟨c, hmem, rfl, hc.1⟩, fun i b hi hb hcb => ?_⟩⟩
      by_cases e : i = k
      · subst e; rw [hx] at hb; obtain rfl := Option.some.inj hb; exact Int.le_refl _
      · cases hf : (lowK l t k).2
        · have := (ih.1 hf).2 i b (by omega) hb; omega
        · have h1 := (ih.2 hf).2 i b (by omega) hb hcb
          have : c.Low < (lowK l t k).1 := by rcases hc.2 with h | h; rw [hf] at h; cases h; exact h
          simp only; omega
    · rw [if_neg hc]
      refine ⟨fun hf => ?_, fun hf => ?_⟩
      · obtain ⟨h1, h2⟩ := ih.1 hf
        refine ⟨h1, fun i b hi hb => ?_⟩
        by_cases e : i = k
        · subst e; rw [hx] at hb; obtain rfl := Option.some.inj hb
          exact Int.not_le.1 (fun h => hc ⟨h, .inl hf⟩)
        · exact h2 i b (by omega) hb
      · obtain ⟨h1, h2⟩ := ih.2 hf
        refine ⟨h1, fun i b hi hb hcb => ?_⟩
        by_cases e : i = k
        · subst e; rw [hx] at hb; obtain rfl := Option.some.inj hb
          exact Int.not_lt.1 (fun h => hc ⟨hcb, .inr h⟩)
        · exact h2 i b (by omega) hb hcb
theorem high_char (l : List Bound) (t : Int) : ∀ k, k ≤ l.length → (highK l t k = 0 ∨ ∃ b ∈ l, highK l t k = b.High ∧ t ≤ cnt l b.High) ∧ 0 ≤ highK l t k ∧ ∀ (i : Nat) (b : Bound), i < k → l[i]? = some b → t ≤ cnt l b.High → b.High ≤ highK l t k := by
  intro k
  induction k with
  | zero => intro _; exact ⟨.inl rfl, Int.le_refl _, fun i b h => by omega⟩
  | succ k ih =>
    intro hk
    have hx : l[k]? = some (l[k]'(by omega)) := List.getElem?_eq_getElem (by omega)
    have hmem := List.mem_of_getElem? hx
    generalize l[k]'(by omega) = c at hx hmem
    obtain ⟨h1, h2, h3⟩ := ih (by omega)
    rw [highK_one hx, highStep]
    by_cases hc : t ≤ cnt l c.High ∧ highK l t k < c.High
    · rw [if_pos hc]
      refine ⟨.inr ⟨c, hmem, rfl, hc.1⟩, by omega, fun i b hi hb hcb => ?_⟩
      by_cases e : i = k
      · subst e; rw [hx] at hb; obtain rfl := Option.some.inj hb; exact Int.le_refl _
      · have := h3 i b (by omega) hb hcb; omega
    · rw [if_neg hc]
      refine ⟨h1, h2, fun i b hi hb hcb => ?_⟩
      by_cases e : i = k
      · subst e; rw [hx] at hb; obtain rfl := Option.some.inj hb
        exact Int.not_lt.1 (fun h => hc ⟨hcb, h⟩)
      · exact h3 i b (by omega) hb hcb
/-! ### both are the same -/
def trustT (l : List Bound) (t : Int) : Tr := trK l t 2001
theorem trust_same {l : List Bound} (hok : bndsOk l = true) {t : Int} (ht : 1 ≤ t) : (lowK l t l.length).1 = (trustT l t).low ∧ highK l t l.length = (trustT l t).high ∧ (lowK l t l.length).2 = (trustT l t).found := by
  obtain ⟨a1, a2⟩ := tr_char l t 2001
  obtain ⟨b1, b2⟩ := low_char l t l.length (Nat.le_refl _)
  obtain ⟨c1, c2, c3⟩ := high_char l t l.length (Nat.le_refl _)
  have hidx : ∀ b ∈ l, ∃ i : Nat, i < l.length ∧ l[i]? = some b := fun b hb => by
    obtain ⟨i, hi, e⟩ := List.getElem_of_mem hb
    exact ⟨i, hi, by rw [List.getElem?_eq_getElem hi, e]⟩
  unfold trustT
  cases hf : (trK l t 2001).found
  · obtain ⟨d1, d2, d3⟩ := a1 hf
    have hno : ∀ b ∈ l, cnt l b.Low < t ∧ cnt l b.High < t := by
      intro b hb
      obtain ⟨h0, h1, h2⟩ := bnds_at hok hb
      have e1 := d3 b.Low.toNat (by omega)
      have e2 := d3 b.High.toNat (by omega)
      rw [show ((b.Low.toNat : Nat) : Int) = b.Low by omega] at e1
      rw [show ((b.High.toNat : Nat) : Int) = b.High by omega] at e2
      exact ⟨e1, e2⟩
    have hfl : (lowK l t l.length).2 = false := by
      cases h : (lowK l t l.length).2
      · rfl
      · obtain ⟨⟨b, hb, _, hc⟩, _⟩ := b2 h
        have := (hno b hb).1; omega
    refine ⟨by rw [d1]; exact (b1 hfl).1, ?_, hfl⟩
    rw [d2]
    rcases c1 with h | ⟨b, hb, _, hc⟩
    · exact h
    · have := (hno b hb).2; omega
  · obtain ⟨d1, d2, d3, d4, d5, d6⟩ := a2 hf
    obtain ⟨bl, hbl, hl1, hl2⟩ := to_low (l := l) (x := (trK l t 2001).low) (by omega)
    obtain ⟨bh, hbh, hh1, hh2⟩ := to_high (l := l) (x := (trK l t 2001).high) (by omega)
    obtain ⟨i, hi, hib⟩ := hidx bl hbl
    obtain ⟨j, hj, hjb⟩ := hidx bh hbh
    have hfl : (lowK l t l.length).2 = true := by
      cases h : (lowK l t l.length).2
      · have := (b1 h).2 i bl hi hib; omega
      · rfl
    obtain ⟨⟨b, hb, e1, e2⟩, b3⟩ := b2 hfl
    have f1 := b3 i bl hi hib (by omega)
    have f2 := c3 j bh hj hjb (by omega)
    obtain ⟨h0, h1, h2⟩ := bnds_at hok hb
    have f3 := d6 b.Low.toNat (by omega) (by rw [show ((b.Low.toNat : Nat) : Int) = b.Low by omega]; exact e2)
    refine ⟨by omega, ?_, hfl⟩
    rcases c1 with h | ⟨b', hb', e3, e4⟩
    · omega
    · obtain ⟨g0, g1, g2⟩ := bnds_at hok hb'
      have f4 := d6 b'.High.toNat (by omega) (by rw [show ((b'.High.toNat : Nat) : Int) = b'.High by omega]; exact e4)
      omega
def trustR (l : List Bound) (f : Int) : Bound × Bool := if bndsOk l = true ∧ inB f 0 ((l.length : Int) - 1) = true then (⟨(trustT l (l.length - f)).low, (trustT l (l.length - f)).high⟩, (trustT l (l.length - f)).found) else (⟨0, 0⟩, false)
theorem tr_none {l : List Bound} {t : Int} (h : (trustT l t).found = false) : (trustT l t).low = 0 ∧ (trustT l t).high = 0 := ⟨((tr_char l t 2001).1 h).1, ((tr_char l t 2001).1 h).2.1⟩
def commonR (l : List Bound) : Bound × Bool := trustR l 0
theorem common_is {l : List Bound} (h : bndsOk l = true) : commonR l = (⟨(trustT l l.length).low, (trustT l l.length).high⟩, (trustT l l.length).found) := by
  have := bnds_len h
  rw [commonR, trustR, if_pos ⟨h, inB_iff.2 ⟨by omega, by omega⟩⟩, Int.sub_zero]
theorem common_no {l : List Bound} (h : bndsOk l = false) : commonR l = (⟨0, 0⟩, false) := by
  rw [commonR, trustR, if_neg (by simp [h])]
end Go.Proofs.Ytmnbbnboaokgjaa
