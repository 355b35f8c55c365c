/- Plain laws: what the law on lockages asks of the begins of an order. No program in sight. -/
import Derived.Test.YtnckpionabokeaaQ8f
namespace Go.Proofs.Ytnckpionabokeaa
open Go.RowKit
section
variable {l : List Arrival} {high : Bool} {mi : Int} {o : List Int}
/-- The lockage of the vessel before in an order. -/
def PrevAt (l : List Arrival) (mi : Int) (o ts : List Int) (k : Nat) (a : Arrival) (t : Int) : Prop :=
  ∃ (i' : Nat) (a' : Arrival) (t' : Int), o[k - 1]? = some (i' : Int) ∧ l[i']? = some a' ∧ ts[k - 1]? = some t' ∧ 0 ≤ t' ∧ t' ≤ 20000 ∧ t' + mi ≤ t ∧ (a.Up = a'.Up → t' + 2 * mi ≤ t)
theorem lock_at (h : implOrd l o = true) (m0 : 1 ≤ mi) (m1 : mi ≤ 60) {k : Nat} (hk : k < o.length) : ∃ (i : Nat) (a : Arrival) (t : Int), o[k]? = some (i : Int) ∧ l[i]? = some a ∧ (runT l mi high o).out[k]? = some t ∧ a.Minute ≤ t ∧ 0 ≤ t ∧ t ≤ 20000 ∧
    lossK l o (runT l mi high o).out (k + 1) = lossK l o (runT l mi high o).out k + a.Weight * (t - a.Minute) ∧ (0 < k → PrevAt l mi o (runT l mi high o).out k a t) := by
  obtain ⟨hok, hlen, _⟩ := ord_parts h
  have h6 := arr_len hok
  obtain ⟨i, a, h1, h2, h3, h4, h5⟩ := loss_at (high := high) h m0 m1 hk
  have htk := ord_tk (high := high) h m0 m1 o.length (Nat.le_refl _)
  rw [List.take_length] at htk
  have hb := htk.out k _ h3
  have hbg := beg_ge (mi := mi) (stK l mi high o k) a m0
  refine ⟨i, a, _, h1, h2, h3, hbg.2, hb.1, by omega, by rw [lossK, h5], fun hk0 => ?_⟩
  obtain ⟨j, rfl⟩ : ∃ j, k = j + 1 := ⟨k - 1, by omega⟩
  obtain ⟨i', a', g1, g2, g3, g4, _⟩ := loss_at (high := high) h m0 m1 (k := j) (by omega)
  have hb' := htk.out j _ g3
  obtain ⟨hf, hh⟩ := st_free (i := i') g4
  refine ⟨i', a', _, by rw [Nat.add_sub_cancel]; exact g1, g2, by rw [Nat.add_sub_cancel]; exact g3, hb'.1, by omega, by omega, fun hu => ?_⟩
  have := beg_turn (mi := mi) (s := stK l mi high o (j + 1)) (a := a) (by rw [hh]; exact hu)
  omega
/-- What is known where an order and its minutes are valid. -/
structure LckYes (l : List Arrival) (high : Bool) (mi : Int) (o bo : List Int) (dl bt : Int) : Prop where
  delay : delayR l high mi o = (dl, true)
  best : bestR l high mi = ((bo, bt), true)
  times : timesR l high mi o = ((runT l mi high o).out, true)
  db : delayR l high mi bo = (bt, true)
  ord : implOrd l bo = true
  blen : bo.length = l.length
  b1 : bt ≤ dl
  olen : o.length = l.length
  tlen : (runT l mi high o).out.length = l.length
  sum : lossK l o (runT l mi high o).out l.length = dl
  top : l.length ≤ 6
theorem lck_yes (h : implOrd l o = true ∧ inB mi 1 60 = true) : ∃ bo dl bt, LckYes l high mi o bo dl bt := by
  obtain ⟨m0, m1⟩ := inB_iff.1 h.2
  obtain ⟨hok, hlen, _⟩ := ord_parts h.1
  obtain ⟨h1, h2, h3⟩ := best_facts (high := high) hok m0 m1
  have htk := ord_tk (high := high) h.1 m0 m1 o.length (Nat.le_refl _)
  rw [List.take_length] at htk
  exact ⟨(contB l high mi l.length []).1, delayZ l high mi o, (contB l high mi l.length []).2, {
    delay := if_pos h
    best := if_pos ⟨hok, h.2⟩
    times := if_pos h
    db := by rw [h2]; exact if_pos ⟨h1, h.2⟩
    ord := h1
    blen := (ord_parts h1).2.1
    b1 := h3 o h.1
    olen := hlen
    tlen := by rw [htk.len, hlen]
    sum := by rw [← hlen]; rfl
    top := arr_len hok }⟩
theorem lck_no (h : ¬ (implOrd l o = true ∧ inB mi 1 60 = true)) : delayR l high mi o = (0, false) ∧ timesR l high mi o = ([], false) := ⟨if_neg h, if_neg h⟩
theorem loss_rng (h : implOrd l o = true) (m0 : 1 ≤ mi) (m1 : mi ≤ 60) : ∀ k, k ≤ o.length → 0 ≤ lossK l o (runT l mi high o).out k ∧ lossK l o (runT l mi high o).out k ≤ 9000000000 * (k : Int) := by
  obtain ⟨hok, hlen, hr⟩ := ord_parts h
  have htk := ord_tk (high := high) h m0 m1 o.length (Nat.le_refl _)
  rw [List.take_length] at htk
  intro k hk
  refine ⟨?_, (loss_bd hr (fun i a ha => by have := arr_bd hok ha; omega) (fun i t ht => by have := htk.out i t ht; have := arr_len hok; omega) (htk.len) k hk).2⟩
  rw [loss_sum]
  refine sumK_pos k (fun j hj => ?_)
  obtain ⟨i, a, _, h2, _, _, h5⟩ := loss_at (high := high) h m0 m1 (k := j) (by omega)
  rw [h5]
  have := (beg_ge (mi := mi) (stK l mi high o j) a m0).2
  have := (arr_bd hok h2).2.2
  exact Int.mul_nonneg (by omega) (by omega)
end
end Go.Proofs.Ytnckpionabokeaa
