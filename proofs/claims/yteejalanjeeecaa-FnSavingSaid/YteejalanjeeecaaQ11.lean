/- Plain laws on lists of pools: what a flow does, what the flows of an order do. No program in sight. -/
import Derived.Test.YteejalanjeeecaaC11c
import Derived.Test.YteejalanjeeecaaBase3
import Derived.Test.YteejalanjeeecaaBase2
import Derived.Test.YteejalanjeeecaaInts
namespace Go.Proofs.Yteejalanjeeecaa
def setW (p : Pool) (x : Int) : Pool := ⟨p.Area, p.Floor, x⟩
def getP (l : List Pool) (i : Nat) : Pool := (l[i]?).getD ⟨0, 0, 0⟩
def letV (l : List Pool) (i j : Nat) : Int := flowZ (getP l i) (getP l j)
def letL (l : List Pool) (i j : Nat) : List Pool := (l.set i (setW (getP l i) ((getP l i).Water - letV l i j))).set j (setW (getP l j) ((getP l j).Water + letV l i j))
def letOk (l : List Pool) (i j : Nat) : Bool := decide ((getP l j).Water + letV l i j ≤ 100000)
/-- What LetFlow hands back. -/
def letAsked (l : List Pool) (x y : Int) : Bool := poolsOk l && inB x 0 (l.length - 1) && inB y 0 (l.length - 1) && decide (x ≠ y)
def letFlowR (l : List Pool) (x y : Int) : List Pool × Int × Bool :=
  if letAsked l x y = true ∧ letOk l x.toNat y.toNat = true then (letL l x.toNat y.toNat, letV l x.toNat y.toNat, true) else ([], 0, false)
theorem getP_at {l : List Pool} {i : Nat} {p : Pool} (h : l[i]? = some p) : getP l i = p := by simp [getP, h]
theorem at_getP {l : List Pool} {i : Nat} (h : i < l.length) : l[i]? = some (getP l i) := by simp [getP, h]
theorem letL_len (l : List Pool) (i j : Nat) : (letL l i j).length = l.length := by simp [letL]
theorem ediv_le (x y : Int) (hx : 0 ≤ x) (hy : 1 ≤ y) : 0 ≤ x / y ∧ x / y ≤ x :=
  ⟨Int.ediv_nonneg hx (by omega), Int.ediv_le_self y hx⟩
theorem flow_bd {p q : Pool} (hp : Ok p) (hq : Ok q) : 0 ≤ flowZ p q ∧ flowZ p q ≤ p.Water := by
  unfold flowZ
  have := hp.w0
  split
  · omega
  · have := ediv_le (diffZ p q) (p.Area + q.Area) (by omega) (by have := hp.a0; have := hq.a0; omega)
    omega
theorem ok_len {l : List Pool} (h : poolsOk l = true) {i : Nat} (hi : i < l.length) : Ok (getP l i) := ok_of_valid (at_ok h (at_getP hi))
theorem valid_set {p : Pool} (h : validPool p = true) {x : Int} (h0 : 0 ≤ x) (h1 : x ≤ 100000) : validPool (setW p x) = true := by
  simp only [validPool, Bool.and_eq_true, inB_iff, setW] at h ⊢
  exact ⟨h.1, by omega⟩
theorem letL_ok {l : List Pool} (h : poolsOk l = true) {i j : Nat} (hi : i < l.length) (hj : j < l.length) (ho : letOk l i j = true) : poolsOk (letL l i j) = true := by
  have hb := flow_bd (ok_len h hi) (ok_len h hj)
  have hv := at_ok h (at_getP hi)
  have hw := at_ok h (at_getP hj)
  have ho : (getP l j).Water + letV l i j ≤ 100000 := by simpa [letOk] using ho
  have e : letV l i j = flowZ (getP l i) (getP l j) := rfl
  have w1 : (getP l i).Water ≤ 100000 := by simp only [validPool, Bool.and_eq_true, inB_iff] at hv; omega
  have w2 : 0 ≤ (getP l j).Water := by simp only [validPool, Bool.and_eq_true, inB_iff] at hw; omega
  have h2 : poolsOk l = true := h
  simp only [poolsOk, Bool.and_eq_true, letL_len] at h ⊢
  refine ⟨h.1, ?_⟩
  rw [List.all_eq_true] at *
  intro x hx
  rcases List.mem_or_eq_of_mem_set hx with hx | rfl
  · rcases List.mem_or_eq_of_mem_set hx with hx | rfl
    · exact h.2 x hx
    · exact valid_set hv (by omega) (by omega)
  · exact valid_set hw (by omega) (by omega)
theorem letFlow_no {l : List Pool} {x y : Int} (h : letAsked l x y = false) : letFlowR l x y = ([], 0, false) := by simp [letFlowR, h]
theorem letFlow_over {l : List Pool} {x y : Int} (h : letOk l x.toNat y.toNat = false) : letFlowR l x y = ([], 0, false) := by simp [letFlowR, h]
theorem letFlow_yes {l : List Pool} {x y : Int} (h : letAsked l x y = true) (ho : letOk l x.toNat y.toNat = true) : letFlowR l x y = (letL l x.toNat y.toNat, letV l x.toNat y.toNat, true) := by simp [letFlowR, h, ho]
/-! ### all flows of an order -/
def ordAt (n : Nat) (l : List Int) (k : Nat) (x : Int) : Bool := inB x 1 ((n : Int) - 1) && !hasB (l.take k) x
def ends (drain : Bool) (x : Int) : Nat × Nat := if drain then (0, x.toNat) else (x.toNat, 0)
def runStep (drain : Bool) (s : Option (List Pool × Int)) (x : Int) : Option (List Pool × Int) :=
  match s with
  | none => none
  | some (l, v) => if letOk l (ends drain x).1 (ends drain x).2 = true then some (letL l (ends drain x).1 (ends drain x).2, v + letV l (ends drain x).1 (ends drain x).2) else none
def runAll (drain : Bool) (l : List Pool) (o : List Int) : Option (List Pool × Int) := o.foldl (runStep drain) (some (l, 0))
theorem runAll_one {drain : Bool} {l : List Pool} {o : List Int} {k : Nat} {x : Int} (h : o[k]? = some x) : runAll drain l (o.take (k + 1)) = runStep drain (runAll drain l (o.take k)) x := by
  rw [take_one h, runAll, List.foldl_append]; rfl
theorem run_none (drain : Bool) (o : List Int) : o.foldl (runStep drain) none = none := by
  induction o with
  | nil => rfl
  | cons x o ih => exact ih
theorem runAll_none {drain : Bool} {l : List Pool} {o : List Int} {k : Nat} (h : runAll drain l (o.take k) = none) : runAll drain l o = none := by
  conv => lhs; rw [← List.take_append_drop k o]
  rw [runAll, List.foldl_append]
  rw [runAll] at h
  rw [h, run_none]
def orderOk (n : Nat) (o : List Int) : Bool := upTo (ordAt n o) o o.length
def runOk (l : List Pool) (o : List Int) : Bool := poolsOk l && orderOk l.length o
/-- What the runs of all flows hand back. -/
def flowAllR (drain : Bool) (l : List Pool) (o : List Int) : List Pool × Int × Bool :=
  if runOk l o = true then (match runAll drain l o with | some (r, v) => (r, v, true) | none => ([], 0, false)) else ([], 0, false)
theorem flowAll_no {drain : Bool} {l : List Pool} {o : List Int} (h : runOk l o = false) : flowAllR drain l o = ([], 0, false) := by simp [flowAllR, h]
theorem flowAll_none {drain : Bool} {l : List Pool} {o : List Int} {k : Nat} (h : runAll drain l (o.take k) = none) : flowAllR drain l o = ([], 0, false) := by
  unfold flowAllR
  rw [runAll_none h]
  split <;> rfl
theorem flowAll_some {drain : Bool} {l r : List Pool} {o : List Int} {v : Int} (ho : runOk l o = true) (h : runAll drain l o = some (r, v)) : flowAllR drain l o = (r, v, true) := by
  simp [flowAllR, ho, h]
/-- What is known behind the first k flows. -/
structure Ran (l : List Pool) (k : Nat) (r : List Pool) (v : Int) : Prop where
  ok : poolsOk r = true
  len : r.length = l.length
  lo : 0 ≤ v
  hi : v ≤ 100000 * (k : Int)
theorem ran_zero {l : List Pool} (h : poolsOk l = true) : Ran l 0 l 0 := ⟨h, rfl, Int.le_refl _, by simp⟩
theorem ord_bd {n : Nat} {o : List Int} {k : Nat} {x : Int} (h : ordAt n o k x = true) : 1 ≤ x ∧ x < n ∧ x.toNat < n ∧ 0 < x.toNat := by
  simp only [ordAt, Bool.and_eq_true, inB_iff] at h; omega
theorem ends_bd {l r : List Pool} {k : Nat} {v : Int} {o : List Int} {x : Int} (drain : Bool) (hr : Ran l k r v) (h : ordAt l.length o k x = true) :
    (ends drain x).1 < r.length ∧ (ends drain x).2 < r.length ∧ (ends drain x).1 ≠ (ends drain x).2 := by
  have := ord_bd h
  rw [hr.len]
  cases drain <;> simp only [ends] <;> simp <;> omega
theorem letV_bd {r : List Pool} (h : poolsOk r = true) {i j : Nat} (hi : i < r.length) (hj : j < r.length) : 0 ≤ letV r i j ∧ letV r i j ≤ 100000 := by
  have := flow_bd (ok_len h hi) (ok_len h hj)
  have hv := at_ok h (at_getP hi)
  simp only [validPool, Bool.and_eq_true, inB_iff] at hv
  unfold letV
  omega
theorem ran_step {l r : List Pool} {k : Nat} {v : Int} (hr : Ran l k r v) {i j : Nat} (hi : i < r.length) (hj : j < r.length) (ho : letOk r i j = true) : Ran l (k + 1) (letL r i j) (v + letV r i j) := by
  have := letV_bd hr.ok hi hj
  have := hr.lo
  have := hr.hi
  exact ⟨letL_ok hr.ok hi hj ho, by rw [letL_len, hr.len], by omega, by omega⟩
theorem step_ok {drain : Bool} {r : List Pool} {v : Int} {x : Int} (h : letOk r (ends drain x).1 (ends drain x).2 = true) : runStep drain (some (r, v)) x = some (letL r (ends drain x).1 (ends drain x).2, v + letV r (ends drain x).1 (ends drain x).2) := by
  simp [runStep, h]
theorem step_no {drain : Bool} {r : List Pool} {v : Int} {x : Int} (h : letOk r (ends drain x).1 (ends drain x).2 = false) : runStep drain (some (r, v)) x = none := by
  simp [runStep, h]
theorem flowAll_inv {drain : Bool} {l r : List Pool} {o : List Int} {v : Int} (h : flowAllR drain l o = (r, v, true)) : runOk l o = true ∧ runAll drain l o = some (r, v) := by
  unfold flowAllR at h
  split at h
  · rename_i h1
    cases hr : runAll drain l o with
    | none => rw [hr] at h; simp at h
    | some s =>
      obtain ⟨a, b⟩ := s
      rw [hr] at h
      simp at h
      exact ⟨h1, by rw [h.1, h.2]⟩
  · simp at h
theorem letL_zero {r : List Pool} {j : Nat} (h0 : 0 < r.length) (hj : j ≠ 0) : getP (letL r 0 j) 0 = setW (getP r 0) ((getP r 0).Water - letV r 0 j) := by
  apply getP_at
  rw [letL, List.getElem?_set_ne hj, List.getElem?_set_self h0]
/-- What is drained is what the chamber has lost. -/
theorem drain_sum {l : List Pool} {o : List Int} (hok : poolsOk l = true) (hord : orderOk l.length o = true) (k : Nat) : k ≤ o.length → ∀ r v, runAll true l (o.take k) = some (r, v) → Ran l k r v ∧ v + (getP r 0).Water = (getP l 0).Water := by
  induction k with
  | zero =>
    intro _ r v h
    simp [runAll] at h
    obtain ⟨rfl, rfl⟩ := h
    exact ⟨ran_zero hok, by omega⟩
  | succ k ih =>
    intro hk r v h
    have hx : o[k]? = some (o[k]'(by omega)) := List.getElem?_eq_getElem (by omega)
    generalize o[k]'(by omega) = x at hx
    rw [runAll_one hx] at h
    cases hr : runAll true l (o.take k) with
    | none => rw [hr] at h; cases h
    | some s =>
      obtain ⟨r0, v0⟩ := s
      obtain ⟨hran, hw⟩ := ih (by omega) r0 v0 hr
      rw [hr] at h
      have ha := upTo_at hord (by omega) hx
      have hb := ends_bd true hran ha
      cases ho : letOk r0 (ends true x).1 (ends true x).2 with
      | false => rw [step_no ho] at h; cases h
      | true =>
        rw [step_ok ho] at h
        have h1 := (Prod.mk.inj (Option.some.inj h)).1
        have h2 := (Prod.mk.inj (Option.some.inj h)).2
        subst h1 h2
        refine ⟨ran_step hran hb.1 hb.2.1 ho, ?_⟩
        have e : getP (letL r0 (ends true x).1 (ends true x).2) 0 = setW (getP r0 0) ((getP r0 0).Water - letV r0 (ends true x).1 (ends true x).2) := letL_zero hb.1 (fun e => hb.2.2 e.symm)
        rw [e]
        simp only [setW]
        omega
def savedR (l : List Pool) (o : List Int) : (Int × Int) × Bool := if (flowAllR true l o).2.2 = true ∧ (getP l 0).Water ≠ 0 then (redI (flowAllR true l o).2.1 (getP l 0).Water, true) else ((0, 0), false)
theorem saved_bd {l r : List Pool} {o : List Int} {v : Int} (h : flowAllR true l o = (r, v, true)) : poolsOk l = true ∧ 0 ≤ v ∧ v ≤ 100000 := by
  obtain ⟨h1, h2⟩ := flowAll_inv h
  simp only [runOk, Bool.and_eq_true] at h1
  obtain ⟨hran, hw⟩ := drain_sum h1.1 h1.2 o.length (Nat.le_refl _) r v (by rw [List.take_length]; exact h2)
  have h0 : 0 < r.length := by have := len_ok hran.ok; omega
  have := (ok_len hran.ok h0).w0
  have hv := at_ok h1.1 (at_getP (by have := hran.len; omega : 0 < l.length))
  simp only [validPool, Bool.and_eq_true, inB_iff] at hv
  have := hran.lo
  exact ⟨h1.1, by omega, by omega⟩
theorem Pool.one (p : Pool) : ∀ u ∈ p.cs, u.oneCell' = true := by intro u hu; simp [Pool.cs] at hu; rcases hu with rfl | rfl | rfl <;> rfl
theorem Pool.put3 {l : List Pool} {i : Nat} {p : Pool} (h : l[i]? = some p) (a b c : Int) : (((l.flatMap Pool.cs).set (i * 3) (.int .i64 a)).set (i * 3 + 1) (.int .i64 b)).set (i * 3 + 2) (.int .i64 c) = (l.set i ⟨a, b, c⟩).flatMap Pool.cs := by
  have hi : i < l.length := (List.getElem?_eq_some_iff.1 h).1
  have e0 := flat_set Pool.cs 3 Pool.cs_len l i p ⟨a, p.Floor, p.Water⟩ h 0 (by omega) (.int .i64 a) rfl
  have e1 := flat_set Pool.cs 3 Pool.cs_len (l.set i ⟨a, p.Floor, p.Water⟩) i ⟨a, p.Floor, p.Water⟩ ⟨a, b, p.Water⟩ (List.getElem?_set_self hi) 1 (by omega) (.int .i64 b) rfl
  have e2 := flat_set Pool.cs 3 Pool.cs_len ((l.set i ⟨a, p.Floor, p.Water⟩).set i ⟨a, b, p.Water⟩) i ⟨a, b, p.Water⟩ ⟨a, b, c⟩ (List.getElem?_set_self (by simpa using hi)) 2 (by omega) (.int .i64 c) rfl
  rw [Nat.add_zero] at e0
  rw [e0, e1, e2]
  simp
theorem letL_eq {l : List Pool} {i j : Nat} {p q : Pool} (hi : l[i]? = some p) (hj : l[j]? = some q) : letL l i j = (l.set i ⟨p.Area, p.Floor, p.Water - flowZ p q⟩).set j ⟨q.Area, q.Floor, q.Water + flowZ p q⟩ := by
  simp [letL, letV, getP_at hi, getP_at hj, setW]
end Go.Proofs.Yteejalanjeeecaa
