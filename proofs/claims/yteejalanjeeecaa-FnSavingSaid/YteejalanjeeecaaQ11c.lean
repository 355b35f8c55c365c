/- Plain laws on flows of water: nothing is lost, and afterwards no unit more could flow. No program in sight. -/
import Derived.Test.YteejalanjeeecaaQ11
namespace Go.Proofs.Yteejalanjeeecaa
open Go.RowKit
theorem water_set : ∀ (l : List Pool) (i : Nat) (p q : Pool), l[i]? = some p → waterOf (l.set i q) = waterOf l - p.Water + q.Water := by
  intro l
  induction l with
  | nil => intro i p q h; simp at h
  | cons x l ih =>
    intro i p q h
    cases i with
    | zero =>
      have : x = p := by simpa using h
      subst this
      simp [waterOf]
      omega
    | succ i =>
      have := ih i p q (by simpa using h)
      simp [waterOf] at this ⊢
      omega
section
variable {l : List Pool} {i j : Nat}
theorem letL_at_i (hi : i < l.length) (hij : i ≠ j) : getP (letL l i j) i = setW (getP l i) ((getP l i).Water - letV l i j) := by
  apply getP_at
  rw [letL, List.getElem?_set_ne (fun e => hij e.symm), List.getElem?_set_self hi]
theorem letL_at_j (hj : j < l.length) : getP (letL l i j) j = setW (getP l j) ((getP l j).Water + letV l i j) := by
  apply getP_at
  rw [letL, List.getElem?_set_self (by simpa using hj)]
theorem letL_water (hi : i < l.length) (hj : j < l.length) (hij : i ≠ j) : waterOf (letL l i j) = waterOf l := by
  rw [letL, water_set _ j (getP l j) _ (by rw [List.getElem?_set_ne hij]; exact at_getP hj), water_set _ i (getP l i) _ (at_getP hi)]
  simp only [setW]
  omega
end
theorem height_set (p : Pool) (x : Int) : heightZ (setW p x) = heightZ p - p.Water + x := by
  simp only [heightZ, setW]; omega
theorem diff_step (p q : Pool) (v : Int) : diffZ (setW p (p.Water - v)) (setW q (q.Water + v)) = diffZ p q - v * (p.Area + q.Area) := by
  have e1 : heightZ p - p.Water + (p.Water - v) = heightZ p - v := by omega
  have e2 : heightZ q - q.Water + (q.Water + v) = heightZ q + v := by omega
  unfold diffZ
  rw [height_set, height_set, e1, e2]
  simp only [setW]
  rw [Int.mul_sub, Int.mul_add, Int.mul_add, Int.mul_comm v p.Area, Int.mul_comm v q.Area]
  omega
theorem diff_neg (p q : Pool) : diffZ q p = - diffZ p q := by unfold diffZ; omega
section
variable {p q : Pool}
/-- Behind a flow. -/
theorem flow_again (hp : Ok p) (hq : Ok q) : flowZ (setW p (p.Water - flowZ p q)) (setW q (q.Water + flowZ p q)) = 0 := by
  have hS : 1 ≤ p.Area + q.Area := by have := hp.a0; have := hq.a0; omega
  have hw := hp.w0
  by_cases hd : diffZ p q ≤ 0
  · have hv : flowZ p q = 0 := by rw [flowZ, if_pos hd]
    rw [flowZ, diff_step, hv, if_pos (by omega)]
  · have hv : flowZ p q = min p.Water (diffZ p q / (p.Area + q.Area)) := by rw [flowZ, if_neg hd]
    by_cases hm : p.Water ≤ diffZ p q / (p.Area + q.Area)
    · have hv' : flowZ p q = p.Water := by omega
      rw [flowZ, hv']
      split
      · rfl
      · rename_i h1
        have h2 : (setW p (p.Water - p.Water)).Water = 0 := by simp [setW]
        rw [h2]
        have h3 : 0 ≤ diffZ (setW p (p.Water - p.Water)) (setW q (q.Water + p.Water)) / ((setW p (p.Water - p.Water)).Area + (setW q (q.Water + p.Water)).Area) := Int.ediv_nonneg (by omega) (by simp only [setW]; omega)
        omega
    · have hv' : flowZ p q = diffZ p q / (p.Area + q.Area) := by omega
      have e : diffZ (setW p (p.Water - flowZ p q)) (setW q (q.Water + flowZ p q)) = diffZ p q % (p.Area + q.Area) := by
        rw [diff_step, hv', Int.emod_def, Int.mul_comm]
      rw [flowZ, e]
      split
      · rfl
      · have h4 : (setW p (p.Water - flowZ p q)).Area + (setW q (q.Water + flowZ p q)).Area = p.Area + q.Area := by simp [setW]
        rw [h4, Int.ediv_eq_zero_of_lt (Int.emod_nonneg _ (by omega)) (Int.emod_lt_of_pos _ (by omega))]
        simp only [setW]
        have := flow_bd hp hq
        omega
theorem flow_back (hp : Ok p) (hq : Ok q) (h0 : 0 < flowZ p q) : flowZ (setW q (q.Water + flowZ p q)) (setW p (p.Water - flowZ p q)) = 0 := by
  have hS : 1 ≤ p.Area + q.Area := by have := hp.a0; have := hq.a0; omega
  by_cases hd : diffZ p q ≤ 0
  · have hv : flowZ p q = 0 := by rw [flowZ, if_pos hd]
    omega
  · have hv : flowZ p q = min p.Water (diffZ p q / (p.Area + q.Area)) := by rw [flowZ, if_neg hd]
    have hle : flowZ p q ≤ diffZ p q / (p.Area + q.Area) := by omega
    have h1 : flowZ p q * (p.Area + q.Area) ≤ diffZ p q := Int.le_trans (Int.mul_le_mul_of_nonneg_right hle (by omega)) (Int.ediv_mul_le _ (by omega))
    rw [flowZ, diff_neg, diff_step, if_pos (by omega)]
end
/-- A fraction in lowest terms. -/
theorem red_fact {x y : Int} (hx : 0 ≤ x) (hy : 0 ≤ y) : (redI x y).1 * y = x * (redI x y).2 := by
  obtain ⟨a, rfl⟩ := Int.eq_ofNat_of_zero_le hx
  obtain ⟨b, rfl⟩ := Int.eq_ofNat_of_zero_le hy
  simp only [redI, Int.toNat_natCast]
  obtain ⟨u, hu⟩ := Nat.gcd_dvd_left a b
  obtain ⟨v, hv⟩ := Nat.gcd_dvd_right a b
  by_cases hg : Nat.gcd a b = 0
  · rw [hg] at hu hv
    have ha : a = 0 := by omega
    have hb : b = 0 := by omega
    subst ha hb
    simp
  · have h1 : a / Nat.gcd a b = u := Nat.div_eq_of_eq_mul_right (Nat.pos_of_ne_zero hg) hu
    have h2 : b / Nat.gcd a b = v := Nat.div_eq_of_eq_mul_right (Nat.pos_of_ne_zero hg) hv
    have e1 : (a : Int) / (Nat.gcd a b : Int) = ((u : Nat) : Int) := by rw [← h1]; simp
    have e2 : (b : Int) / (Nat.gcd a b : Int) = ((v : Nat) : Int) := by rw [← h2]; simp
    rw [e1, e2]
    have : u * b = a * v := by
      generalize Nat.gcd a b = g at *
      rw [hu, hv]
      rw [Nat.mul_left_comm, Nat.mul_assoc]
    exact_mod_cast this
theorem red_bd {x y : Int} (hx : 0 ≤ x) (hy : 0 ≤ y) : (0 ≤ (redI x y).1 ∧ (redI x y).1 ≤ x) ∧ 0 ≤ (redI x y).2 ∧ (redI x y).2 ≤ y := by
  have hg : (0 : Int) ≤ (Nat.gcd x.toNat y.toNat : Int) := by omega
  simp only [redI]
  exact ⟨⟨Int.ediv_nonneg hx hg, Int.ediv_le_self _ hx⟩, Int.ediv_nonneg hy hg, Int.ediv_le_self _ hy⟩
/-- What LetFlow tells. -/
theorem letFlow_inv {l : List Pool} {x y : Int} (h : (letFlowR l x y).2.2 = true) : ∃ i j : Nat, x = i ∧ y = j ∧ i < l.length ∧ j < l.length ∧ i ≠ j ∧ poolsOk l = true ∧ letFlowR l x y = (letL l i j, letV l i j, true) ∧ poolsOk (letL l i j) = true := by
  unfold letFlowR at h
  split at h
  · rename_i h1
    obtain ⟨ha, ho⟩ := h1
    have e := letFlow_yes ha ho
    simp only [letAsked, Bool.and_eq_true, inB_iff, decide_eq_true_eq] at ha
    obtain ⟨⟨⟨hok, hx⟩, hy⟩, hne⟩ := ha
    obtain ⟨i, rfl⟩ := Int.eq_ofNat_of_zero_le hx.1
    obtain ⟨j, rfl⟩ := Int.eq_ofNat_of_zero_le hy.1
    simp only [Int.toNat_natCast] at e ho
    have hi : i < l.length := by omega
    have hj : j < l.length := by omega
    exact ⟨i, j, rfl, rfl, hi, hj, by omega, hok, e, letL_ok hok hi hj ho⟩
  · cases h
theorem letFlow_none {l : List Pool} {x y : Int} (h : (letFlowR l x y).2.2 = false) : letFlowR l x y = ([], 0, false) := by
  unfold letFlowR at *
  split
  · rename_i h1
    rw [if_pos h1] at h
    cases h
  · rfl
/-- What is drained out keeps all water. -/
theorem run_water {d : Bool} {l : List Pool} {o : List Int} (hok : poolsOk l = true) (hord : orderOk l.length o = true) (k : Nat) : k ≤ o.length → ∀ r v, runAll d l (o.take k) = some (r, v) → Ran l k r v ∧ waterOf r = waterOf l := by
  induction k with
  | zero =>
    intro _ r v h
    simp [runAll] at h
    obtain ⟨rfl, rfl⟩ := h
    exact ⟨ran_zero hok, rfl⟩
  | succ k ih =>
    intro hk r v h
    have hx : o[k]? = some (o[k]'(by omega)) := List.getElem?_eq_getElem (by omega)
    generalize o[k]'(by omega) = x at hx
    rw [runAll_one hx] at h
    cases hr : runAll d l (o.take k) with
    | none => rw [hr] at h; cases h
    | some s =>
      obtain ⟨r0, v0⟩ := s
      obtain ⟨hran, hw⟩ := ih (by omega) r0 v0 hr
      rw [hr] at h
      have ha := upTo_at hord (by omega) hx
      have hb := ends_bd d hran ha
      cases ho : letOk r0 (ends d x).1 (ends d x).2 with
      | false => rw [step_no ho] at h; cases h
      | true =>
        rw [step_ok ho] at h
        have h1 := (Prod.mk.inj (Option.some.inj h)).1
        have h2 := (Prod.mk.inj (Option.some.inj h)).2
        subst h1 h2
        exact ⟨ran_step hran hb.1 hb.2.1 ho, by rw [letL_water hb.1 hb.2.1 hb.2.2, hw]⟩
/-- What DrainChamber tells. -/
theorem drain_facts {l r : List Pool} {o : List Int} {v : Int} (h : flowAllR true l o = (r, v, true)) : poolsOk l = true ∧ orderOk l.length o = true ∧ poolsOk r = true ∧ r.length = l.length ∧ waterOf r = waterOf l ∧ v + (getP r 0).Water = (getP l 0).Water ∧ 0 ≤ v ∧ v ≤ 100000 := by
  obtain ⟨h1, h2⟩ := flowAll_inv h
  simp only [runOk, Bool.and_eq_true] at h1
  obtain ⟨_, hw⟩ := drain_sum h1.1 h1.2 o.length (Nat.le_refl _) r v (by rw [List.take_length]; exact h2)
  obtain ⟨hran, hs⟩ := run_water h1.1 h1.2 o.length (Nat.le_refl _) r v (by rw [List.take_length]; exact h2)
  have := saved_bd h
  exact ⟨h1.1, h1.2, hran.ok, hran.len, hs, hw, this.2.1, this.2.2⟩
/-- What FnPools asks of a flow that is let. -/
def PoolsF (l : List Pool) (x y : Int) (L : List Pool) (v : Int) : Prop :=
  ∃ (i j : Nat) (s : Int), x = i ∧ y = j ∧ i < l.length ∧ j < l.length ∧ L.length = l.length ∧ allWater l = (s, true) ∧ allWater L = (s, true) ∧ poolsOk L = true ∧
    (∀ p q, l[i]? = some p → l[j]? = some q → flowBetweenR p q = (v, true)) ∧
    (∀ p q, L[i]? = some p → L[j]? = some q → flowBetweenR p q = (0, true) ∧ ∃ b, flowBetweenR q p = (b, true) ∧ (0 < v → b = 0))
theorem pools_facts {l L : List Pool} {x y v : Int} (h : letFlowR l x y = (L, v, true)) : PoolsF l x y L v := by
  obtain ⟨i, j, rfl, rfl, hi, hj, hij, hok, hR, hok'⟩ := letFlow_inv (l := l) (x := x) (y := y) (by rw [h])
  rw [h] at hR
  have e1 : L = letL l i j := (Prod.mk.inj hR).1
  have e2 : v = letV l i j := (Prod.mk.inj (Prod.mk.inj hR).2).1
  subst e1 e2
  have hlen := letL_len l i j
  have flows : ∀ {l : List Pool} {p q : Pool} {i j : Nat}, poolsOk l = true → l[i]? = some p → l[j]? = some q → flowBetweenR p q = (flowZ p q, true) := by
    intro l p q i j h hp hq
    rw [flowBetweenR, if_pos ⟨at_ok h hp, at_ok h hq⟩]
  refine ⟨i, j, waterOf l, rfl, rfl, hi, hj, hlen, by rw [allWater, if_pos hok], by rw [allWater, if_pos hok', letL_water hi hj hij], hok', ?_, ?_⟩
  · intro p q hp hq
    rw [flows hok hp hq, letV, getP_at hp, getP_at hq]
  · intro p q hp hq
    have hp' := (getP_at hp).symm.trans (letL_at_i hi hij)
    have hq' := (getP_at hq).symm.trans (letL_at_j hj)
    have a1 := ok_len hok hi
    have a2 := ok_len hok hj
    have ev : letV l i j = flowZ (getP l i) (getP l j) := rfl
    refine ⟨?_, flowZ q p, ?_, ?_⟩
    · rw [flows hok' hp hq, hp', hq', ev, flow_again a1 a2]
    · exact flows hok' hq hp
    · intro h0
      rw [hp', hq', ev]
      exact flow_back a1 a2 (by rw [← ev]; exact h0)
theorem between_le {p q : Pool} (h : (flowBetweenR p q).2 = true) : (flowBetweenR p q).1 ≤ p.Water := by
  unfold flowBetweenR at *
  split
  · rename_i h1
    exact (flow_bd (ok_of_valid h1.1) (ok_of_valid h1.2)).2
  · rename_i h1
    rw [if_neg h1] at h
    cases h
/-- What FnPools asks of a level. -/
theorem level_facts (p : Pool) : (levelIn p).2 = validPool p ∧ ((levelIn p).2 = true → Ok p ∧ (levelIn p).1.1 * p.Area = (p.Floor * p.Area + p.Water) * (levelIn p).1.2 ∧ (0 ≤ (levelIn p).1.1 ∧ (levelIn p).1.1 ≤ 400000) ∧ 0 ≤ (levelIn p).1.2 ∧ (levelIn p).1.2 ≤ 100) := by
  unfold levelIn
  by_cases h : validPool p = true
  · have ho := ok_of_valid h
    have hb := height_bd ho
    have h0 := ho.a0
    have h1 := ho.a1
    have hr := red_bd hb.1 (show 0 ≤ p.Area by omega)
    rw [if_pos h]
    refine ⟨h.symm, fun _ => ⟨ho, ?_, ?_, ?_⟩⟩
    · exact red_fact hb.1 (by omega)
    · simp only; omega
    · simp only; omega
  · rw [if_neg h]
    refine ⟨by simpa using h, fun e => by cases e⟩
end Go.Proofs.Yteejalanjeeecaa
