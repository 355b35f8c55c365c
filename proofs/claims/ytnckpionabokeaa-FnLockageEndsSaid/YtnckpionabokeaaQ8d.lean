/- Plain: the order by minutes and Ids is an order of lockages. No program in sight. -/
import Derived.Test.YtnckpionabokeaaQ8c
namespace Go.Proofs.Ytnckpionabokeaa
open Go.RowKit
theorem befI_asymm {l : List Arrival} {x y : Int} (h : befI l x y = true) : befI l y x = false := befA_asymm h
theorem befI_trans {l : List Arrival} {x y z : Int} (h1 : befI l y x = false) (h2 : befI l z y = false) : befI l z x = false := by
  unfold befI befA at *
  rw [Bool.eq_false_iff] at *
  simp only [ne_eq, Bool.or_eq_true, Bool.and_eq_true, decide_eq_true_eq] at *
  omega
theorem posK_hi {l : List Arrival} {o : List Int} {x : Int} : ∀ k q, posK l o x k ≤ q → q < k → befI l x (ofAt o q) = true := by
  intro k
  induction k with
  | zero => intro q _ h; omega
  | succ k ih =>
    intro q h1 h2
    rw [posK] at h1
    split at h1
    · rename_i hb
      by_cases hq : q = k
      · rw [hq]; exact hb
      · exact ih q h1 (by omega)
    · omega
theorem posK_lo {l : List Arrival} {o : List Int} {x : Int} : ∀ k, 0 < posK l o x k → befI l x (ofAt o (posK l o x k - 1)) = false := by
  intro k
  induction k with
  | zero => intro h; simp [posK] at h
  | succ k ih =>
    intro h
    by_cases hb : befI l x (ofAt o k) = true
    · have e : posK l o x (k + 1) = posK l o x k := by rw [posK, if_pos hb]
      rw [e] at h ⊢
      exact ih h
    · have e : posK l o x (k + 1) = k + 1 := by rw [posK, if_neg hb]
      rw [e, Nat.add_sub_cancel]
      simpa using hb
def Beh (l : List Arrival) (b x : Int) : Prop := befI l x b = false ∧ b ≠ x
theorem ins_sorted {l : List Arrival} {o : List Int} {x : Int} (h : o.Pairwise (Beh l)) (hx : ∀ a ∈ o, a ≠ x) : (ins l o x).Pairwise (Beh l) := by
  have hp := posK_le l o x o.length
  have hlo := posK_lo (l := l) (o := o) (x := x) o.length
  have hhi := posK_hi (l := l) (o := o) (x := x) o.length
  unfold ins
  generalize posK l o x o.length = p at *
  have hd : ∀ b ∈ o.drop p, befI l x b = true := by
    intro b hb
    obtain ⟨i, hi, e⟩ := List.mem_iff_getElem.1 hb
    rw [List.getElem_drop] at e
    rw [List.length_drop] at hi
    have := hhi (p + i) (by omega) (by omega)
    rwa [ofAt_eq (x := b) (by rw [List.getElem?_eq_getElem (by omega), e])] at this
  have ht : ∀ a ∈ o.take p, befI l x a = false := by
    intro a ha
    obtain ⟨i, hi, e⟩ := List.mem_take_iff_getElem.1 ha
    have hip : i < p := by omega
    have h1 := hlo (by omega)
    have hol : p - 1 < o.length := by omega
    rw [ofAt_eq (x := o[p - 1]) (List.getElem?_eq_getElem hol)] at h1
    by_cases hq : i = p - 1
    · subst hq; rw [← e]; exact h1
    · have h2 := (List.pairwise_iff_getElem.1 h) i (p - 1) (by omega) hol (by omega)
      rw [← e]
      exact befI_trans h2.1 h1
  have hw : (o.take p ++ o.drop p).Pairwise (Beh l) := by rw [List.take_append_drop]; exact h
  obtain ⟨w1, w2, w3⟩ := List.pairwise_append.1 hw
  refine List.pairwise_append.2 ⟨w1, List.pairwise_cons.2 ⟨fun b hb => ⟨befI_asymm (hd b hb), fun e => hx b (List.mem_of_mem_drop hb) e.symm⟩, w2⟩, fun a ha b hb => ?_⟩
  rcases List.mem_cons.1 hb with rfl | hb
  · exact ⟨ht a ha, hx a (List.mem_of_mem_take ha)⟩
  · exact w3 a ha b hb
theorem fc_sorted (l : List Arrival) : ∀ k, (fcK l k).Pairwise (Beh l) := by
  intro k
  induction k with
  | zero => exact List.Pairwise.nil
  | succ k ih => exact ins_sorted ih (fun a ha e => by have := fcK_mem l k a ha; omega)
theorem fc_ord {l : List Arrival} (h : arrOk l = true) : implOrd l (fcK l l.length) = true := by
  simp only [implOrd, Bool.and_eq_true, decide_eq_true_eq]
  refine ⟨⟨h, fcK_len l _⟩, upTo_all _ (fun i x hi hx => ?_)⟩
  obtain ⟨x0, x1⟩ := fcK_mem l l.length x (List.mem_of_getElem? hx)
  obtain ⟨hi', hxe⟩ := List.getElem?_eq_some_iff.1 hx
  have hs := fc_sorted l l.length
  have hbe : ∀ b ∈ (fcK l l.length).take i, Beh l b x := by
    intro b hb
    obtain ⟨j, hj, e⟩ := List.mem_take_iff_getElem.1 hb
    have := (List.pairwise_iff_getElem.1 hs) j i (by omega) hi' (by omega)
    rw [e, hxe] at this
    exact this
  simp only [implAt, fresh, Bool.and_eq_true, Bool.not_eq_true']
  refine ⟨⟨inB_iff.2 ⟨x0, by omega⟩, hasB_no.2 (fun hm => (hbe x hm).2 rfl)⟩, ?_⟩
  rw [List.any_eq_false]
  intro b hb
  have := (hbe b hb).1
  unfold ahead
  unfold befI at this
  rw [this]
  simp
end Go.Proofs.Ytnckpionabokeaa
