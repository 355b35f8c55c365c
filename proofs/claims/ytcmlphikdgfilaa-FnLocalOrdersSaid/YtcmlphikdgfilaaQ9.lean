/- Plain laws on bounds: a vessel alone, neighbors exchanged. No program in sight. -/
import Derived.Test.YtcmlphikdgfilaaC8d
namespace Go.Proofs.Ytcmlphikdgfilaa
open Go.RowKit
theorem delay_one (p : Arrival) (high : Bool) (mi : Int) : delayZ [p] high mi [0] = p.Weight * (max (if p.Up = high then 0 + mi else 0) p.Minute - p.Minute) := by
  simp [delayZ, lossK, lossAt, runT, stepT, arrAtI]
theorem delay_one_bd {p : Arrival} {high : Bool} {mi : Int} (m0 : 1 ≤ mi) (m1 : mi ≤ 60) (w0 : 0 ≤ p.Weight) (w1 : p.Weight ≤ 9) (a0 : 0 ≤ p.Minute) (a1 : p.Minute ≤ 9999) : -180000 ≤ delayZ [p] high mi [0] ∧ delayZ [p] high mi [0] ≤ 9000000000 := by
  rw [delay_one]
  refine mul_abs w0 w1 ?_ ?_ <;> (split <;> omega)
def aloneK (l : List Arrival) (high : Bool) (mi : Int) : Nat → Int
  | 0 => 0
  | k + 1 => aloneK l high mi k + delayZ [(l[k]?).getD noArr] high mi [0]
theorem aloneK_one {l : List Arrival} {high : Bool} {mi : Int} {k : Nat} {p : Arrival} (h : l[k]? = some p) : aloneK l high mi (k + 1) = aloneK l high mi k + delayZ [p] high mi [0] := by simp [aloneK, h]
theorem alone_bd {l : List Arrival} {high : Bool} {mi : Int} (hok : arrOk l = true) (m0 : 1 ≤ mi) (m1 : mi ≤ 60) : ∀ k, k ≤ l.length → -180000 * (k : Int) ≤ aloneK l high mi k ∧ aloneK l high mi k ≤ 9000000000 * (k : Int) := by
  intro k
  induction k with
  | zero => intro _; simp [aloneK]
  | succ k ih =>
    intro hk
    have hx : l[k]? = some (l[k]'(by omega)) := List.getElem?_eq_getElem (by omega)
    generalize l[k]'(by omega) = p at hx
    have hb := arr_bd hok hx
    have h1 := delay_one_bd (high := high) m0 m1 (by omega : 0 ≤ p.Weight) hb.2.2.2 hb.2.1.1 hb.2.1.2
    have h2 := ih (by omega)
    rw [aloneK_one hx]
    omega
def aloneR (l : List Arrival) (high : Bool) (mi : Int) : Int × Bool := if arrOk l = true ∧ inB mi 1 60 = true then (aloneK l high mi l.length, true) else (0, false)
/-! ### neighbors exchanged -/
def oAt (o : List Int) (k : Nat) : Int := (o[k]?).getD 0
def swapL (o : List Int) (k : Nat) : List Int := (o.set k (oAt o (k + 1))).set (k + 1) (oAt o k)
theorem oAt_eq {o : List Int} {k : Nat} {x : Int} (h : o[k]? = some x) : oAt o k = x := by simp [oAt, h]
theorem swapL_eq {o : List Int} {k : Nat} {x y : Int} (hx : o[k]? = some x) (hy : o[k + 1]? = some y) : swapL o k = (o.set k y).set (k + 1) x := by rw [swapL, oAt_eq hx, oAt_eq hy]
theorem swapL_len (o : List Int) (k : Nat) : (swapL o k).length = o.length := by simp [swapL]
def gainR (l : List Arrival) (high : Bool) (mi : Int) (o : List Int) (k : Nat) : Int × Bool := if implOrd l (swapL o k) = true then (delayZ l high mi o - delayZ l high mi (swapL o k), true) else (0, false)
def swapAsked (l : List Arrival) (mi : Int) (o : List Int) (x : Int) : Bool := implOrd l o && inB mi 1 60 && inB x 0 ((o.length : Int) - 2)
def swapGainR (l : List Arrival) (high : Bool) (mi : Int) (o : List Int) (x : Int) : Int × Bool := if swapAsked l mi o x = true then gainR l high mi o x.toNat else (0, false)
theorem delay_bd {l : List Arrival} {high : Bool} {mi : Int} {o : List Int} (h : implOrd l o = true) (m0 : 1 ≤ mi) (m1 : mi ≤ 60) : -1080000 ≤ delayZ l high mi o ∧ delayZ l high mi o ≤ 54000000000 := by
  obtain ⟨hok, hlen, hr⟩ := ord_parts h
  have hl6 := arr_len hok
  have h9 := tk_run (high := high) hr (fun i a ha => (arr_bd hok ha).2.1) m0 m1 o.length (Nat.le_refl _)
  rw [List.take_length] at h9
  have := loss_bd (ts := (runT l mi high o).out) hr (fun i a ha => by have := arr_bd hok ha; omega) (fun i t ht => by have := h9.out i t ht; omega) h9.len o.length (Nat.le_refl _)
  unfold delayZ
  omega
theorem int_set {l : List Int} {i : Nat} {x : Int} (h : l[i]? = some x) (a : Int) : (l.flatMap ci).set i (.int .i64 a) = (l.set i a).flatMap ci := by
  have := flat_set ci 1 ci_len l i x a h 0 (by omega) (.int .i64 a) rfl
  rwa [Nat.mul_one, Nat.add_zero] at this
end Go.Proofs.Ytcmlphikdgfilaa
