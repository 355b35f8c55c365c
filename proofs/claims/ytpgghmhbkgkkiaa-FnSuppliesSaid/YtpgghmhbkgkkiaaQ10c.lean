/- Plain laws on leveling basins. No program in sight. -/
import Derived.Test.YtpgghmhbkgkkiaaC10f
namespace Go.Proofs.Ytpgghmhbkgkkiaa
open Go.RowKit
def bsAt (r : List Basin) (i : Nat) : Basin := (r[i]?).getD ⟨0, 0, 0⟩
theorem bsAt_eq {r : List Basin} {i : Nat} {b : Basin} (h : r[i]? = some b) : bsAt r i = b := by simp [bsAt, h]
def abv (b : Basin) : Int := b.Volume - b.Least
def room (b : Basin) : Int := b.Most - b.Volume
def fromK (r : List Basin) : Nat → Nat
  | 0 => 0
  | k + 1 => if abv (bsAt r (fromK r k)) < abv (bsAt r k) then k else fromK r k
def toK (r : List Basin) : Nat → Nat
  | 0 => 0
  | k + 1 => if room (bsAt r (toK r k)) < room (bsAt r k) then k else toK r k
theorem fromK_lt {r : List Basin} {n : Nat} (hn : 0 < n) : ∀ k, k ≤ n → fromK r k < n := by
  intro k
  induction k with
  | zero => intro _; exact hn
  | succ k ih => 
    intro hk; simp only [fromK]; split
    · omega
    · exact ih (by omega)
theorem toK_lt {r : List Basin} {n : Nat} (hn : 0 < n) : ∀ k, k ≤ n → toK r k < n := by
  intro k
  induction k with
  | zero => intro _; exact hn
  | succ k ih => 
    intro hk; simp only [toK]; split
    · omega
    · exact ih (by omega)
/-- Leveling stops here. -/
def stops (r : List Basin) : Bool := decide (abv (bsAt r (fromK r r.length)) < abv (bsAt r (toK r r.length)) + 2) || decide ((bsAt r (toK r r.length)).Volume = (bsAt r (toK r r.length)).Most)
def theFlow (r : List Basin) : Flow := ⟨(fromK r r.length : Int), (toK r r.length : Int), 1⟩
def potB (b : Basin) : Nat := (b.Volume - b.Least).toNat * (b.Volume - b.Least).toNat
def pot (r : List Basin) : Nat := (r.map potB).sum
theorem sum_set {f : Basin → Nat} : ∀ (r : List Basin) (i : Nat) (b c : Basin), r[i]? = some b → ((r.set i c).map f).sum + f b = (r.map f).sum + f c := by
  intro r
  induction r with
  | nil => intro i b c h; simp at h
  | cons x r ih =>
    intro i b c h
    cases i with
    | zero => simp at h; subst h; simp; omega
    | succ i =>
      have := ih i b c (by simpa using h)
      simp only [List.set_cons_succ, List.map_cons, List.sum_cons]
      omega
theorem sq_step {x y : Nat} (h : y + 2 ≤ x) : (x - 1) * (x - 1) + (y + 1) * (y + 1) < x * x + y * y := by
  obtain ⟨d, rfl⟩ : ∃ d, x = y + 2 + d := ⟨x - (y + 2), by omega⟩
  have e : y + 2 + d - 1 = y + 1 + d := by omega
  rw [e]
  have e1 : (y + 1 + d) * (y + 1 + d) + (y + 1) * (y + 1) + (2 * d + 2) = (y + 2 + d) * (y + 2 + d) + y * y := by
    simp only [Nat.add_mul, Nat.mul_add]
    omega
  omega
structure Goes (r : List Basin) (i j : Nat) (p q : Basin) : Prop where
  hi : r[i]? = some p
  hj : r[j]? = some q
  ne : i ≠ j
  gap : q.Volume - q.Least + 2 ≤ p.Volume - p.Least
  room : q.Volume < q.Most
theorem goes_of {r : List Basin} (hok : basinsOk r = true) (hs : stops r = false) : Goes r (fromK r r.length) (toK r r.length) (bsAt r (fromK r r.length)) (bsAt r (toK r r.length)) := by
  have hn := (bas_len hok).1
  have hf := fromK_lt (r := r) (n := r.length) (by omega) r.length (Nat.le_refl _)
  have ht := toK_lt (r := r) (n := r.length) (by omega) r.length (Nat.le_refl _)
  have e1 : r[fromK r r.length]? = some (bsAt r (fromK r r.length)) := by simp [bsAt, hf]
  have e2 : r[toK r r.length]? = some (bsAt r (toK r r.length)) := by simp [bsAt, ht]
  have b2 := bas_at hok e2
  unfold stops at hs
  rw [Bool.or_eq_false_iff] at hs
  have h1 := of_decide_eq_false hs.1
  have h2 := of_decide_eq_false hs.2
  unfold abv at h1
  refine ⟨e1, e2, ?_, by omega, by omega⟩
  intro e
  rw [e] at h1
  omega
theorem goes_ok {r : List Basin} {i j : Nat} {p q : Basin} (hok : basinsOk r = true) (h : Goes r i j p q) : validFlow r.length ⟨i, j, 1⟩ = true ∧ basinsOk (moveL r ⟨i, j, 1⟩) = true ∧ pot (moveL r ⟨i, j, 1⟩) < pot r := by
  obtain ⟨hi, hj, ne, gap, hroom⟩ := h
  have li : i < r.length := (List.getElem?_eq_some_iff.1 hi).1
  have lj : j < r.length := (List.getElem?_eq_some_iff.1 hj).1
  have bp := bas_at hok hi
  have bq := bas_at hok hj
  refine ⟨?_, ?_, ?_⟩
  · simp only [validFlow, Bool.and_eq_true, inB_iff, decide_eq_true_eq]
    omega
  · have hl := bas_len hok
    simp only [basinsOk, Bool.and_eq_true, inB_iff, moveL_len]
    refine ⟨by omega, ?_⟩
    rw [← move_both ne hi hj, List.all_eq_true]
    intro b hb
    rcases List.mem_or_eq_of_mem_set hb with hb | rfl
    · rcases List.mem_or_eq_of_mem_set hb with hb | rfl
      · exact List.all_eq_true.1 (bas_all hok) b hb
      · rw [validBasin_iff]; simp only; omega
    · rw [validBasin_iff]; simp only; omega
  · rw [← move_both ne hi hj]
    have s1 := sum_set (f := potB) r i p ⟨p.Volume - 1, p.Least, p.Most⟩ hi
    have s2 := sum_set (f := potB) (r.set i ⟨p.Volume - 1, p.Least, p.Most⟩) j q ⟨q.Volume + 1, q.Least, q.Most⟩ (by rw [List.getElem?_set_ne ne]; exact hj)
    have hsq := sq_step (x := (p.Volume - p.Least).toNat) (y := (q.Volume - q.Least).toNat) (by omega)
    have e1 : potB ⟨p.Volume - 1, p.Least, p.Most⟩ = ((p.Volume - p.Least).toNat - 1) * ((p.Volume - p.Least).toNat - 1) := by
      simp only [potB]
      rw [show (p.Volume - 1 - p.Least).toNat = (p.Volume - p.Least).toNat - 1 by omega]
    have e2 : potB ⟨q.Volume + 1, q.Least, q.Most⟩ = ((q.Volume - q.Least).toNat + 1) * ((q.Volume - q.Least).toNat + 1) := by
      simp only [potB]
      rw [show (q.Volume + 1 - q.Least).toNat = (q.Volume - q.Least).toNat + 1 by omega]
    have e3 : potB p = (p.Volume - p.Least).toNat * (p.Volume - p.Least).toNat := rfl
    have e4 : potB q = (q.Volume - q.Least).toNat * (q.Volume - q.Least).toNat := rfl
    simp only [pot]
    rw [e1] at s1
    rw [e2] at s2
    omega
/-- Where the leveling ends. -/
def level (r : List Basin) (fuel : Nat) : List Basin := match fuel with
  | 0 => r
  | f + 1 => if stops r = true then r else level (moveL r (theFlow r)) f
theorem level_fuel : ∀ (f g : Nat) (r : List Basin), basinsOk r = true → pot r ≤ f → pot r ≤ g → level r f = level r g := by
  intro f
  induction f with
  | zero =>
    intro g r hok hf hg
    cases hs : stops r
    · obtain ⟨_, _, g3⟩ := goes_ok hok (goes_of hok hs)
      omega
    · cases g <;> simp [level, hs]
  | succ f ih =>
    intro g r hok hf hg
    cases hs : stops r
    · obtain ⟨_, g2, g3⟩ := goes_ok hok (goes_of hok hs)
      obtain ⟨g', rfl⟩ : ∃ g', g = g' + 1 := ⟨g - 1, by omega⟩
      simp only [level, hs, Bool.false_eq_true, if_false]
      exact ih g' _ g2 (by have : pot (moveL r (theFlow r)) < pot r := g3; omega) (by have : pot (moveL r (theFlow r)) < pot r := g3; omega)
    · cases g <;> simp [level, hs]
def levelOf (l : List Basin) : List Basin := level l (pot l)
theorem level_end {r : List Basin} (hs : stops r = true) : levelOf r = r := by
  unfold levelOf
  cases pot r <;> simp [level, hs]
theorem level_go {r : List Basin} (hok : basinsOk r = true) (hs : stops r = false) : levelOf r = levelOf (moveL r (theFlow r)) := by
  obtain ⟨_, g2, g3⟩ := goes_ok hok (goes_of hok hs)
  have g3 : pot (moveL r (theFlow r)) < pot r := g3
  unfold levelOf
  obtain ⟨p', hp⟩ : ∃ p', pot r = p' + 1 := ⟨pot r - 1, by omega⟩
  rw [hp]
  simp only [level, hs, Bool.false_eq_true, if_false]
  exact level_fuel _ _ _ g2 (by omega) (Nat.le_refl _)
def levelR (l : List Basin) : List Basin × Bool := if basinsOk l = true then (levelOf l, true) else ([], false)
/-- The other program's way to say that leveling stops. -/
theorem stops_same {r : List Basin} (hok : basinsOk r = true) : stops r = (!(moveWaterR r (theFlow r)).2 || decide (abv (bsAt r (fromK r r.length)) < abv (bsAt r (toK r r.length)) + 2)) := by
  cases hs : stops r
  · have hg := goes_of hok hs
    obtain ⟨g1, g2, _⟩ := goes_ok hok hg
    have hfo : flowOk r (theFlow r) = true := by simp only [flowOk, hok, Bool.true_and]; exact g1
    rw [moveR_yes hfo g2]
    have h1 : ¬ (abv (bsAt r (fromK r r.length)) < abv (bsAt r (toK r r.length)) + 2) := by
      unfold abv
      have := hg.gap
      omega
    simp [h1]
  · simp only [stops, Bool.or_eq_true, decide_eq_true_eq] at hs
    rcases hs with h | h
    · symm
      rw [Bool.or_eq_true]
      exact .inr (by simpa using h)
    · symm
      rw [Bool.or_eq_true]
      left
      by_cases hfo : flowOk r (theFlow r) = true ∧ basinsOk (moveL r (theFlow r)) = true
      · exfalso
        have hn := (bas_len hok).1
        have hf := fromK_lt (r := r) (n := r.length) (by omega) r.length (Nat.le_refl _)
        have ht := toK_lt (r := r) (n := r.length) (by omega) r.length (Nat.le_refl _)
        have e2 : r[toK r r.length]? = some (bsAt r (toK r r.length)) := by simp [bsAt, ht]
        have hne : (theFlow r).From ≠ (theFlow r).To := (valid_flow (flow_parts hfo.1).2).2.2.2.2.1
        have h3 := moveL_at (f := theFlow r) e2
        rw [volB_to (fun e => hne e.symm) rfl] at h3
        have := bas_at hfo.2 h3
        simp only [theFlow] at this
        omega
      · simp only [moveWaterR, if_neg hfo]; rfl
end Go.Proofs.Ytpgghmhbkgkkiaa
