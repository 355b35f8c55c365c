/- Plain laws on the queue bound. No program in sight. -/
import Derived.Test.YtcmlphikdgfilaaQ9
import Derived.Test.YtcmlphikdgfilaaC8h
namespace Go.Proofs.Ytcmlphikdgfilaa
open Go.RowKit
structure Qs where
  free : Int
  sum : Int
  least : Int
def stepQ (mi : Int) (s : Qs) (a : Arrival) : Qs := ⟨max s.free a.Minute + mi, s.sum + (max s.free a.Minute - a.Minute), min s.least a.Weight⟩
def runQ (l : List Arrival) (mi : Int) (o : List Int) : Qs := o.foldl (fun s x => stepQ mi s (arrAtI l x)) ⟨0, 0, 9⟩
theorem runQ_one {l : List Arrival} {mi : Int} {o : List Int} {k i : Nat} {a : Arrival} (h : o[k]? = some (i : Int)) (ha : l[i]? = some a) : runQ l mi (o.take (k + 1)) = stepQ mi (runQ l mi (o.take k)) a := by
  rw [runQ, List.take_add_one, h, List.foldl_append, ← arrAtI_nat ha]; rfl
structure Qk (k : Nat) (s : Qs) : Prop where
  f0 : 0 ≤ s.free
  f1 : s.free ≤ 9999 + 60 * (k : Int)
  s0 : 0 ≤ s.sum
  s1 : s.sum ≤ 20000 * (k : Int)
  l0 : 0 ≤ s.least
  l1 : s.least ≤ 9
theorem qk_zero : Qk 0 ⟨0, 0, 9⟩ := ⟨by simp, by simp, by simp, by simp, by simp, by simp⟩
theorem qk_step {k : Nat} {s : Qs} {mi : Int} {a : Arrival} (h : Qk k s) (hk : k ≤ 6) (m0 : 1 ≤ mi) (m1 : mi ≤ 60) (a0 : 0 ≤ a.Minute) (a1 : a.Minute ≤ 9999) (w0 : 0 ≤ a.Weight) : Qk (k + 1) (stepQ mi s a) := by
  obtain ⟨h1, h2, h3, h4, h5, h6⟩ := h
  constructor <;> simp only [stepQ] <;> omega
theorem qk_run {l : List Arrival} {mi : Int} {o : List Int} (hr : ∀ (k : Nat) (x : Int), o[k]? = some x → 0 ≤ x ∧ x < l.length) (hv : ∀ (i : Nat) (a : Arrival), l[i]? = some a → 0 ≤ a.Minute ∧ a.Minute ≤ 9999 ∧ 0 ≤ a.Weight) (m0 : 1 ≤ mi) (m1 : mi ≤ 60) (h6 : o.length ≤ 6) : ∀ k, k ≤ o.length → Qk k (runQ l mi (o.take k)) := by
  intro k
  induction k with
  | zero => intro _; exact qk_zero
  | succ k ih =>
    intro hk
    have hx : o[k]? = some (o[k]'(by omega)) := List.getElem?_eq_getElem (by omega)
    generalize o[k]'(by omega) = x at hx
    obtain ⟨x0, x1⟩ := hr k x hx
    obtain ⟨i, rfl⟩ := Int.eq_ofNat_of_zero_le x0
    have ha : l[i]? = some (l[i]'(by omega)) := List.getElem?_eq_getElem (by omega)
    obtain ⟨v0, v1, v2⟩ := hv i _ ha
    rw [runQ_one hx ha]
    exact qk_step (ih (by omega)) (by omega) m0 m1 v0 v1 v2
def queueZ (l : List Arrival) (mi : Int) : Int := (runQ l mi (fcK l l.length)).least * (runQ l mi (fcK l l.length)).sum
def queueR (l : List Arrival) (mi : Int) : Int × Bool := if arrOk l = true ∧ inB mi 1 60 = true then (queueZ l mi, true) else (0, false)
theorem fc_rng (l : List Arrival) (n : Nat) : ∀ (k : Nat) (x : Int), (fcK l n)[k]? = some x → 0 ≤ x ∧ x < n := fun k x h => fcK_mem l n x (List.mem_of_getElem? h)
theorem queue_qk {l : List Arrival} {mi : Int} (hok : arrOk l = true) (m0 : 1 ≤ mi) (m1 : mi ≤ 60) : ∀ k, k ≤ l.length → Qk k (runQ l mi ((fcK l l.length).take k)) := by
  have h6 := arr_len hok
  have hl := fcK_len l l.length
  have := qk_run (l := l) (mi := mi) (o := fcK l l.length) (fc_rng l l.length) (fun i a ha => by have := arr_bd hok ha; omega) m0 m1 (by omega)
  intro k hk
  exact this k (by omega)
theorem queue_bd {l : List Arrival} {mi : Int} (hok : arrOk l = true) (m0 : 1 ≤ mi) (m1 : mi ≤ 60) : 0 ≤ queueZ l mi ∧ queueZ l mi ≤ 9000000000 := by
  have h6 := arr_len hok
  have hl := fcK_len l l.length
  have h := queue_qk hok m0 m1 l.length (Nat.le_refl _)
  rw [List.take_of_length_le (Nat.le_of_eq hl)] at h
  have h2 := mul_abs (x := (runQ l mi (fcK l l.length)).least) (y := (runQ l mi (fcK l l.length)).sum) h.l0 h.l1 (by have := h.s0; omega) (by have := h.s1; omega)
  exact ⟨Int.mul_nonneg h.l0 h.s0, h2.2⟩
def lowerZ (l : List Arrival) (high : Bool) (mi : Int) : Int := max (aloneK l high mi l.length) (queueZ l mi)
def lowerR (l : List Arrival) (high : Bool) (mi : Int) : Int × Bool := if arrOk l = true ∧ inB mi 1 60 = true then (lowerZ l high mi, true) else (0, false)
def gapR (l : List Arrival) (high : Bool) (mi : Int) (o : List Int) : Int × Bool := if implOrd l o = true ∧ inB mi 1 60 = true then (delayZ l high mi o - lowerZ l high mi, true) else (0, false)
def provenR (l : List Arrival) (high : Bool) (mi : Int) (o : List Int) : Bool × Bool := ((gapR l high mi o).2 && decide ((gapR l high mi o).1 = 0), (gapR l high mi o).2)
theorem lower_bd {l : List Arrival} {high : Bool} {mi : Int} (hok : arrOk l = true) (m0 : 1 ≤ mi) (m1 : mi ≤ 60) : -10000000 ≤ lowerZ l high mi ∧ lowerZ l high mi ≤ 54000000000 := by
  have h6 := arr_len hok
  have h1 := alone_bd (high := high) hok m0 m1 l.length (Nat.le_refl _)
  have h2 := queue_bd hok m0 m1
  unfold lowerZ
  omega
end Go.Proofs.Ytcmlphikdgfilaa
