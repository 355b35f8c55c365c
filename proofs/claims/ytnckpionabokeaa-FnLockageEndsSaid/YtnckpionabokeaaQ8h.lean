/- Plain laws: what the law on the ends of lockages asks. No program in sight. -/
import Derived.Test.YtnckpionabokeaaQ8b
import Derived.Test.YtnckpionabokeaaC8f
import Derived.Test.YtnckpionabokeaaQ8g
namespace Go.Proofs.Ytnckpionabokeaa
open Go.RowKit
theorem mxK_mem {W : List Int} : ∀ k, k < W.length → mxK W k ∈ W := by
  intro k
  induction k with
  | zero =>
    intro h
    rw [mxK_zero (List.getElem?_eq_getElem h)]
    exact List.getElem_mem h
  | succ k ih =>
    intro h
    have hm := mxK_one (W := W) (k := k + 1) (List.getElem?_eq_getElem h) (by omega)
    rw [Nat.add_sub_cancel] at hm
    rw [hm]
    have h1 := ih (by omega)
    have h2 : W[k + 1] ∈ W := List.getElem_mem h
    rcases Int.le_total (mxK W k) W[k + 1] with hl | hl
    · rw [Int.max_eq_right hl]; exact h2
    · rw [Int.max_eq_left hl]; exact h1
section
variable {l : List Arrival} {high : Bool} {mi : Int} {o : List Int}
theorem turns_same (mi' : Int) : ∀ k, k ≤ o.length → (∀ (j : Nat) (x : Int), o[j]? = some x → 0 ≤ x ∧ x < l.length) → (stK l mi high o k).turns = (stK l mi' high o k).turns ∧ (stK l mi high o k).high = (stK l mi' high o k).high := by
  intro k
  induction k with
  | zero => intro _ _; exact ⟨rfl, rfl⟩
  | succ k ih =>
    intro hk hr
    obtain ⟨h1, h2⟩ := ih (by omega) hr
    have hx : o[k]? = some (o[k]'(by omega)) := List.getElem?_eq_getElem (by omega)
    generalize o[k]'(by omega) = x at hx
    obtain ⟨x0, x1⟩ := hr k x hx
    obtain ⟨i, rfl⟩ := Int.eq_ofNat_of_zero_le x0
    have ha : l[i]? = some (l[i]'(by omega)) := List.getElem?_eq_getElem (by omega)
    rw [stK_one hx ha, stK_one hx ha, stepT_beg, stepT_beg]
    simp only [h1, h2]
    exact ⟨trivial, trivial⟩
theorem free_turns (h : implOrd l o = true) (m0 : 1 ≤ mi) (m1 : mi ≤ 60) : ∀ k, k ≤ o.length → ((stK l mi high o k).turns + (k : Int)) * mi ≤ (stK l mi high o k).free := by
  intro k
  induction k with
  | zero => intro _; simp [stK_zero]
  | succ k ih =>
    intro hk
    have h1 := ih (by omega)
    obtain ⟨i, a, _, _, _, h4⟩ := ord_beg (high := high) h m0 m1 (k := k) (by omega)
    have hf := (st_free (i := i) h4).1
    have ht : (stK l mi high o (k + 1)).turns = if a.Up = (stK l mi high o k).high then (stK l mi high o k).turns + 1 else (stK l mi high o k).turns := by rw [h4, stepT_beg]
    rw [hf, ht]
    have hb := beg_ge (mi := mi) (stK l mi high o k) a m0
    by_cases hu : a.Up = (stK l mi high o k).high
    · rw [if_pos hu]
      have hb2 := beg_turn (mi := mi) hu
      have e : ((stK l mi high o k).turns + 1 + ((k + 1 : Nat) : Int)) * mi = ((stK l mi high o k).turns + (k : Int)) * mi + mi + mi := by
        rw [show (stK l mi high o k).turns + 1 + ((k + 1 : Nat) : Int) = ((stK l mi high o k).turns + (k : Int)) + 1 + 1 by omega, Int.add_mul, Int.add_mul, Int.one_mul]
      omega
    · rw [if_neg hu]
      have e : ((stK l mi high o k).turns + ((k + 1 : Nat) : Int)) * mi = ((stK l mi high o k).turns + (k : Int)) * mi + mi := by
        rw [show (stK l mi high o k).turns + ((k + 1 : Nat) : Int) = ((stK l mi high o k).turns + (k : Int)) + 1 by omega, Int.add_mul, Int.one_mul]
      omega
theorem free_late (h : implOrd l o = true) (m0 : 1 ≤ mi) (m1 : mi ≤ 60) {p : Nat} {t : Int} (ht : (runT l mi high o).out[p]? = some t) : ∀ k, p < k → k ≤ o.length → t + mi ≤ (stK l mi high o k).free := by
  intro k
  induction k with
  | zero => intro h; omega
  | succ k ih =>
    intro h1 h2
    obtain ⟨i, a, _, _, h3, h4⟩ := ord_beg (high := high) h m0 m1 (k := k) (by omega)
    have hf := (st_free (i := i) h4).1
    have hb := beg_ge (mi := mi) (stK l mi high o k) a m0
    by_cases e : p = k
    · subst e
      rw [ht] at h3
      have := Option.some.inj h3
      omega
    · have := ih (by omega) (by omega)
      omega
def wsK (l : List Arrival) (k : Nat) : Int := sumK (fun j => (arrAtI l (j : Int)).Weight) k
theorem wsK_one {l : List Arrival} {k : Nat} {a : Arrival} (h : l[k]? = some a) : wsK l (k + 1) = wsK l k + a.Weight := by
  rw [wsK, sumK, arrAtI_nat h]; rfl
theorem wsK_ids (l : List Arrival) : ∀ n, wsK l n = sumZ (fun x => (arrAtI l x).Weight) (idsZ n) := by
  intro n
  induction n with
  | zero => simp [wsK, sumK, sumZ, idsZ]
  | succ n ih =>
    rw [idsZ_snoc, sumZ_app, ← ih, wsK, sumK]
    simp [sumZ, wsK]
theorem wsK_rng (hok : arrOk l = true) : ∀ k, k ≤ l.length → 0 ≤ wsK l k ∧ wsK l k ≤ 9 * (k : Int) := by
  intro k
  induction k with
  | zero => intro _; simp [wsK, sumK]
  | succ k ih =>
    intro hk
    have ha : l[k]? = some (l[k]'(by omega)) := List.getElem?_eq_getElem (by omega)
    have := ih (by omega)
    have hb := (arr_bd hok ha).2.2
    rw [wsK_one ha]
    omega
/-- What is known where an order and its minutes are valid, and there is a vessel. -/
structure EndYes (l : List Arrival) (high : Bool) (mi : Int) (o : List Int) (en tu bw dl : Int) (i : Nat) (a : Arrival) : Prop where
  last : lastRR l high mi o = (en, true)
  turns : turnsR l high o = (tu, true)
  long : longR l high mi o = (((i : Int), bw), true)
  delay : delayR l high mi o = (dl, true)
  at_ : l[i]? = some a
  e1 : dl ≤ bw * wsK l l.length
  e2 : bw * a.Weight ≤ dl
  e3 : (tu + (l.length : Int)) * mi ≤ en
  e4 : a.Minute + bw + mi ≤ en
  w0 : 0 ≤ bw
  w1 : bw ≤ 20000
  n0 : 0 ≤ en
  n1 : en ≤ 100000
  t0 : 0 ≤ tu
  t1 : tu ≤ 6
  top : l.length ≤ 6
theorem end_yes (h : implOrd l o = true ∧ inB mi 1 60 = true) (hl : ¬ l.length = 0) : ∃ en tu bw dl i a, EndYes l high mi o en tu bw dl i a := by
  obtain ⟨m0, m1⟩ := inB_iff.1 h.2
  obtain ⟨hok, hlen, hr⟩ := ord_parts h.1
  have h6 := arr_len hok
  have htk := ord_tk (high := high) h.1 m0 m1 o.length (Nat.le_refl _)
  rw [List.take_length] at htk
  have hfr := ord_fre h.1
  have htl := htk.len
  -- the waits
  have hW := waits_len l o (runT l mi high o).out
  have hpos := waits_pos (high := high) h.1 m0 m1
  obtain ⟨b1, b2, b3⟩ := best_is hpos (l.length - 1) (by rw [hW]; omega)
  have e0 : l.length - 1 + 1 = l.length := by omega
  rw [e0] at b1 b2
  rw [List.take_of_length_le (by rw [hW]; exact Nat.le_refl _)] at b2
  have hmem := mxK_mem (W := waits l o (runT l mi high o).out) (l.length - 1) (by rw [hW]; omega)
  obtain ⟨i, hi, hwi⟩ : ∃ i : Nat, (bestW (waits l o (runT l mi high o).out) l.length).1 = (i : Int) ∧ (waits l o (runT l mi high o).out)[i]? = some (mxK (waits l o (runT l mi high o).out) (l.length - 1)) := by
    rcases b2 with ⟨_, g⟩ | ⟨j, g1, g2, _⟩
    · rw [hasB_no] at g; exact absurd hmem g
    · exact ⟨j, g1, g2⟩
  have hil : i < l.length := by have := (List.getElem?_eq_some_iff.1 hwi).1; rwa [hW] at this
  have ha : l[i]? = some (l[i]'hil) := List.getElem?_eq_getElem hil
  generalize l[i]'hil = a at ha
  obtain ⟨p, hp⟩ := all_there hlen hfr hil
  have hpl := (List.getElem?_eq_some_iff.1 hp).1
  obtain ⟨i', a', c1, c2, c3, c4, c5⟩ := loss_at (high := high) h.1 m0 m1 hpl
  rw [hp] at c1
  obtain rfl : i = i' := by have := Option.some.inj c1; omega
  rw [ha] at c2
  obtain rfl : a = a' := Option.some.inj c2
  have hwat : ∀ (q j : Nat) (b : Arrival) (t : Int), o[q]? = some (j : Int) → l[j]? = some b → (runT l mi high o).out[q]? = some t → t - b.Minute ≤ mxK (waits l o (runT l mi high o).out) (l.length - 1) := by
    intro q j b t g1 g2 g3
    have := waits_at (l := l) (o := o) (ts := (runT l mi high o).out) htl hr hfr g1 g3 g2
    exact b3 j _ (by have := (List.getElem?_eq_some_iff.1 g2).1; omega) this
  have hbw : mxK (waits l o (runT l mi high o).out) (l.length - 1) = begT mi (stK l mi high o p) a - a.Minute := by
    have := waits_at (l := l) (o := o) (ts := (runT l mi high o).out) htl hr hfr hp c3 ha
    rw [hwi] at this
    exact Option.some.inj this
  -- the last lockage
  obtain ⟨il, al, d1, d2, d3, d4⟩ := ord_beg (high := high) h.1 m0 m1 (k := o.length - 1) (by omega)
  have hlast : (stK l mi high o o.length).free = begT mi (stK l mi high o (o.length - 1)) al + mi := by
    have := (st_free (i := il) d4).1
    rwa [show o.length - 1 + 1 = o.length by omega] at this
  have hb3 := htk.out _ _ d3
  have htn := turns_same (l := l) (high := high) (mi := mi) (o := o) 1 o.length (Nat.le_refl _) hr
  have htk1 := ord_tk (high := high) h.1 (mi := 1) (by omega) (by omega) o.length (Nat.le_refl _)
  rw [List.take_length] at htk1
  have hft := free_turns (high := high) h.1 m0 m1 o.length (Nat.le_refl _)
  have hfl := free_late (high := high) h.1 m0 m1 c3 o.length hpl (Nat.le_refl _)
  have hbm := beg_ge (mi := mi) (stK l mi high o p) a m0
  have hbp := htk.out _ _ c3
  have hmv := (arr_bd hok ha).2.1
  have hbw2 := b1.trans hbw
  refine ⟨(stK l mi high o o.length).free, (runT l 1 high o).turns, begT mi (stK l mi high o p) a - a.Minute, delayZ l high mi o, i, a, {
    last := ?_, turns := if_pos h.1, long := ?_, delay := if_pos h, at_ := ha, e1 := ?_, e2 := ?_, e3 := ?_, e4 := by omega, w0 := by omega, w1 := by omega, n0 := by omega, n1 := by omega, t0 := htk1.t0, t1 := by have := htk1.t1; omega, top := h6 }⟩
  · rw [lastRR, if_pos h, d3, hlast]; rfl
  · rw [longR, if_pos ⟨h, hl⟩]
    have : bestW (waits l o (runT l mi high o).out) l.length = ((i : Int), begT mi (stK l mi high o p) a - a.Minute) := Prod.ext hi hbw2
    rw [this]
  · have e1 : sumK (fun k => (begT mi (stK l mi high o p) a - a.Minute) * (arrAtI l ((o[k]?).getD 0)).Weight) o.length = (begT mi (stK l mi high o p) a - a.Minute) * wsK l l.length := by
      rw [sumK_mul, wsK_ids, ← sum_fre hfr hlen, sumK_list (fun x => (arrAtI l x).Weight) _ o (fun k x hx => by simp [hx]) _ (Nat.le_refl _), List.take_length]
    rw [← e1, delay_sum]
    refine sumK_le _ (fun k hk => ?_)
    obtain ⟨j, b, g1, g2, g3, _, g5⟩ := loss_at (high := high) h.1 m0 m1 hk
    rw [g5, g1]
    simp only [Option.getD_some, arrAtI_nat g2]
    have := hwat k j b _ g1 g2 g3
    rw [hbw] at this
    have hw := (arr_bd hok g2).2.2
    rw [Int.mul_comm]
    exact Int.mul_le_mul_of_nonneg_right this (by omega)
  · rw [delay_sum, Int.mul_comm, ← c5]
    refine sumK_one _ hpl (fun k hk => ?_)
    obtain ⟨j, b, _, g2, _, _, g5⟩ := loss_at (high := high) h.1 m0 m1 hk
    rw [g5]
    have := (beg_ge (mi := mi) (stK l mi high o k) b m0).2
    have := (arr_bd hok g2).2.2
    exact Int.mul_nonneg (by omega) (by omega)
  · have e2 : (runT l 1 high o).turns = (stK l mi high o o.length).turns := by rw [htn.1, stK_all]
    rw [e2, ← hlen]
    exact hft
theorem end_no (h : ¬ (implOrd l o = true ∧ inB mi 1 60 = true)) : lastRR l high mi o = (0, false) ∧ longR l high mi o = ((0, 0), false) := ⟨if_neg h, if_neg (fun e => h e.1)⟩
theorem end_nil (h : implOrd l o = true ∧ inB mi 1 60 = true) (hl : l.length = 0) : lastRR l high mi o = (0, true) ∧ longR l high mi o = ((0, 0), false) := by
  have hlen := (ord_parts h.1).2.1
  have ho : o = [] := List.eq_nil_of_length_eq_zero (by omega)
  subst ho
  refine ⟨?_, if_neg (fun e => e.2 hl)⟩
  rw [lastRR, if_pos h]
  rfl
theorem turns_ord (l : List Arrival) (high : Bool) (o : List Int) : (turnsR l high o).2 = implOrd l o := by
  unfold turnsR
  cases h : implOrd l o <;> simp
end
end Go.Proofs.Ytnckpionabokeaa
