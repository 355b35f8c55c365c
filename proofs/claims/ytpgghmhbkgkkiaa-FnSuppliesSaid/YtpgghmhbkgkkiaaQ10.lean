/- Plain laws on lists of basins: what flows do. No program in sight. -/
import Derived.Test.YtpgghmhbkgkkiaaC10d
import Derived.Test.YtpgghmhbkgkkiaaBase2
import Derived.Test.YtpgghmhbkgkkiaaBase3
namespace Go.Proofs.Ytpgghmhbkgkkiaa
theorem Basin.one (p : Basin) : ∀ u ∈ p.cs, u.oneCell' = true := by intro u hu; simp [Basin.cs] at hu; rcases hu with rfl | rfl | rfl <;> rfl
theorem Basin.put3 {l : List Basin} {i : Nat} {p : Basin} (h : l[i]? = some p) (a b c : Int) : (((l.flatMap Basin.cs).set (i * 3) (.int .i64 a)).set (i * 3 + 1) (.int .i64 b)).set (i * 3 + 2) (.int .i64 c) = (l.set i ⟨a, b, c⟩).flatMap Basin.cs := by
  have hi : i < l.length := (List.getElem?_eq_some_iff.1 h).1
  have e0 := flat_set Basin.cs 3 Basin.cs_len l i p ⟨a, p.Least, p.Most⟩ h 0 (by omega) (.int .i64 a) rfl
  have e1 := flat_set Basin.cs 3 Basin.cs_len (l.set i ⟨a, p.Least, p.Most⟩) i ⟨a, p.Least, p.Most⟩ ⟨a, b, p.Most⟩ (List.getElem?_set_self hi) 1 (by omega) (.int .i64 b) rfl
  have e2 := flat_set Basin.cs 3 Basin.cs_len ((l.set i ⟨a, p.Least, p.Most⟩).set i ⟨a, b, p.Most⟩) i ⟨a, b, p.Most⟩ ⟨a, b, c⟩ (List.getElem?_set_self (by simpa using hi)) 2 (by omega) (.int .i64 c) rfl
  rw [Nat.add_zero] at e0
  rw [e0, e1, e2]
  simp
theorem Basin.set0 {l : List Basin} {i : Nat} {p : Basin} (h : l[i]? = some p) (a : Int) : (l.flatMap Basin.cs).set (i * 3) (.int .i64 a) = (l.set i ⟨a, p.Least, p.Most⟩).flatMap Basin.cs :=
  flat_set Basin.cs 3 Basin.cs_len l i p ⟨a, p.Least, p.Most⟩ h 0 (by omega) (.int .i64 a) rfl
def volB (f : Flow) (i : Nat) (b : Basin) : Basin := ⟨b.Volume - (if (i : Int) = f.From then f.Volume else 0) + (if (i : Int) = f.To then f.Volume else 0), b.Least, b.Most⟩
def moveK (l : List Basin) (f : Flow) (k : Nat) : List Basin := l.mapIdx fun i b => if i < k then volB f i b else b
def moveL (l : List Basin) (f : Flow) : List Basin := l.mapIdx fun i b => volB f i b
theorem moveL_len (l : List Basin) (f : Flow) : (moveL l f).length = l.length := by simp [moveL]
theorem moveK_len (l : List Basin) (f : Flow) (k : Nat) : (moveK l f k).length = l.length := by simp [moveK]
theorem moveK_zero (l : List Basin) (f : Flow) : moveK l f 0 = l := by
  apply List.ext_getElem?; intro i; simp [moveK, List.getElem?_mapIdx]
theorem moveK_all {l : List Basin} {f : Flow} {k : Nat} (h : l.length = k) : moveK l f k = moveL l f := by
  apply List.ext_getElem?; intro i
  simp only [moveK, moveL, List.getElem?_mapIdx]
  by_cases hi : i < k
  · simp [hi]
  · rw [List.getElem?_eq_none (by omega)]; rfl
theorem moveK_at {l : List Basin} {f : Flow} {k : Nat} {b : Basin} (h : l[k]? = some b) : (moveK l f k)[k]? = some b := by simp [moveK, List.getElem?_mapIdx, h]
theorem moveK_step {l : List Basin} {f : Flow} {k : Nat} {b : Basin} (h : l[k]? = some b) : (moveK l f k).set k (volB f k b) = moveK l f (k + 1) := by
  have hk : k < l.length := (List.getElem?_eq_some_iff.1 h).1
  apply List.ext_getElem?; intro i
  by_cases hi : i = k
  · subst hi
    rw [List.getElem?_set_self (by rw [moveK_len]; exact hk)]
    simp [moveK, List.getElem?_mapIdx, h]
  · rw [List.getElem?_set_ne (fun e => hi e.symm)]
    simp only [moveK, List.getElem?_mapIdx]
    have : i < k ↔ i < k + 1 := by omega
    simp only [this]
theorem moveL_at {l : List Basin} {f : Flow} {i : Nat} {b : Basin} (h : l[i]? = some b) : (moveL l f)[i]? = some (volB f i b) := by simp [moveL, List.getElem?_mapIdx, h]
theorem volB_none {f : Flow} {i : Nat} {b : Basin} (h1 : (i : Int) ≠ f.From) (h2 : (i : Int) ≠ f.To) : volB f i b = b := by simp [volB, h1, h2]
theorem volB_from {f : Flow} {i : Nat} {b : Basin} (h1 : (i : Int) = f.From) (h2 : (i : Int) ≠ f.To) : volB f i b = ⟨b.Volume - f.Volume, b.Least, b.Most⟩ := by rw [volB, if_pos h1, if_neg h2]; simp
theorem volB_to {f : Flow} {i : Nat} {b : Basin} (h1 : (i : Int) ≠ f.From) (h2 : (i : Int) = f.To) : volB f i b = ⟨b.Volume + f.Volume, b.Least, b.Most⟩ := by rw [volB, if_neg h1, if_pos h2]; simp
theorem move_out {l : List Basin} {z : Int} {i : Nat} {p : Basin} (h : l[i]? = some p) : l.set i ⟨p.Volume - z, p.Least, p.Most⟩ = moveL l ⟨i, -1, z⟩ := by
  have hi : i < l.length := (List.getElem?_eq_some_iff.1 h).1
  apply List.ext_getElem?; intro k
  by_cases hk : k = i
  · subst hk
    rw [List.getElem?_set_self hi, moveL_at h, volB_from (by rfl) (by show (k : Int) ≠ -1; omega)]
  · rw [List.getElem?_set_ne (fun e => hk e.symm)]
    simp only [moveL, List.getElem?_mapIdx]
    cases l[k]? with
    | none => rfl
    | some b => simp only [Option.map_some]; rw [volB_none (by show (k : Int) ≠ (i : Int); omega) (by show (k : Int) ≠ -1; omega)]
theorem move_in {l : List Basin} {z : Int} {j : Nat} {p : Basin} (h : l[j]? = some p) : l.set j ⟨p.Volume + z, p.Least, p.Most⟩ = moveL l ⟨-1, j, z⟩ := by
  have hi : j < l.length := (List.getElem?_eq_some_iff.1 h).1
  apply List.ext_getElem?; intro k
  by_cases hk : k = j
  · subst hk
    rw [List.getElem?_set_self hi, moveL_at h, volB_to (by show (k : Int) ≠ -1; omega) (by rfl)]
  · rw [List.getElem?_set_ne (fun e => hk e.symm)]
    simp only [moveL, List.getElem?_mapIdx]
    cases l[k]? with
    | none => rfl
    | some b => simp only [Option.map_some]; rw [volB_none (by show (k : Int) ≠ -1; omega) (by show (k : Int) ≠ (j : Int); omega)]
theorem move_both {l : List Basin} {z : Int} {i j : Nat} {p q : Basin} (hij : i ≠ j) (h : l[i]? = some p) (g : l[j]? = some q) : (l.set i ⟨p.Volume - z, p.Least, p.Most⟩).set j ⟨q.Volume + z, q.Least, q.Most⟩ = moveL l ⟨i, j, z⟩ := by
  have hi : i < l.length := (List.getElem?_eq_some_iff.1 h).1
  have hj : j < l.length := (List.getElem?_eq_some_iff.1 g).1
  apply List.ext_getElem?; intro k
  by_cases hk : k = j
  · subst hk
    rw [List.getElem?_set_self (by simpa using hj), moveL_at g, volB_to (by show (k : Int) ≠ (i : Int); omega) (by rfl)]
  · rw [List.getElem?_set_ne (fun e => hk e.symm)]
    by_cases hk2 : k = i
    · subst hk2
      rw [List.getElem?_set_self hi, moveL_at h, volB_from (by rfl) (by show (k : Int) ≠ (j : Int); omega)]
    · rw [List.getElem?_set_ne (fun e => hk2 e.symm)]
      simp only [moveL, List.getElem?_mapIdx]
      cases l[k]? with
      | none => rfl
      | some b => simp only [Option.map_some]; rw [volB_none (by show (k : Int) ≠ (i : Int); omega) (by show (k : Int) ≠ (j : Int); omega)]
/-- The volumes are no great numbers. -/
def Small (X : Int) (l : List Basin) : Prop := ∀ (i : Nat) (b : Basin), l[i]? = some b → -X ≤ b.Volume ∧ b.Volume ≤ X ∧ 0 ≤ b.Least ∧ b.Least ≤ 100000 ∧ 0 ≤ b.Most ∧ b.Most ≤ 100000
theorem small_ok {l : List Basin} (h : basinsOk l = true) : Small 100000 l := fun i b hb => by
  have := bas_at h hb; omega
theorem small_mono {X Y : Int} {l : List Basin} (h : Small X l) (hxy : X ≤ Y) : Small Y l := fun i b hb => by have := h i b hb; omega
theorem small_move {X : Int} {l : List Basin} {f : Flow} (h : Small X l) (h0 : 0 ≤ f.Volume) (h1 : f.Volume ≤ 100000) : Small (X + 100000) (moveL l f) := fun i b hb => by
  simp only [moveL, List.getElem?_mapIdx] at hb
  cases e : l[i]? with
  | none => rw [e] at hb; cases hb
  | some c =>
    rw [e] at hb
    simp only [Option.map_some] at hb
    have := Option.some.inj hb
    subst this
    have := h i c e
    simp only [volB]
    split <;> split <;> omega
def moveWaterR (l : List Basin) (f : Flow) : List Basin × Bool := if flowOk l f = true ∧ basinsOk (moveL l f) = true then (moveL l f, true) else ([], false)
theorem moveR_no {l : List Basin} {f : Flow} (h : flowOk l f = false) : moveWaterR l f = ([], false) := by simp [moveWaterR, h]
theorem moveR_bad {l : List Basin} {f : Flow} (h : basinsOk (moveL l f) = false) : moveWaterR l f = ([], false) := by simp [moveWaterR, h]
theorem moveR_yes {l : List Basin} {f : Flow} (h : flowOk l f = true) (g : basinsOk (moveL l f) = true) : moveWaterR l f = (moveL l f, true) := by simp [moveWaterR, h, g]
/-! ### flows one behind the other -/
def runF : List Basin → List Flow → List Basin × Nat
  | l, [] => (l, 0)
  | l, f :: fs => if basinsOk (moveL l f) = true then ((runF (moveL l f) fs).1, (runF (moveL l f) fs).2 + 1) else (l, 0)
def runFlowsR (l : List Basin) (fs : List Flow) : List Basin × Int × Bool := if flowsOk l fs = true then ((runF l fs).1, ((runF l fs).2 : Int), true) else ([], 0, false)
theorem runF_at {l r : List Basin} {fs : List Flow} {k : Nat} {f : Flow} (hr : runF l fs = ((runF r (fs.drop k)).1, (runF r (fs.drop k)).2 + k)) (hf : fs[k]? = some f) (h : basinsOk (moveL r f) = true) :
    runF l fs = ((runF (moveL r f) (fs.drop (k + 1))).1, (runF (moveL r f) (fs.drop (k + 1))).2 + (k + 1)) := by
  have hk : k < fs.length := (List.getElem?_eq_some_iff.1 hf).1
  have e : fs.drop k = f :: fs.drop (k + 1) := by
    rw [List.drop_eq_getElem_cons hk]; congr 1; exact (List.getElem?_eq_some_iff.1 hf).2
  rw [hr, e, runF, if_pos h]
  simp only
  congr 1; omega
theorem runF_stop {l r : List Basin} {fs : List Flow} {k : Nat} {f : Flow} (hr : runF l fs = ((runF r (fs.drop k)).1, (runF r (fs.drop k)).2 + k)) (hf : fs[k]? = some f) (h : basinsOk (moveL r f) = false) : runF l fs = (r, k) := by
  have hk : k < fs.length := (List.getElem?_eq_some_iff.1 hf).1
  have e : fs.drop k = f :: fs.drop (k + 1) := by
    rw [List.drop_eq_getElem_cons hk]; congr 1; exact (List.getElem?_eq_some_iff.1 hf).2
  rw [hr, e, runF, if_neg (by simp [h])]
  simp
theorem runF_end {l r : List Basin} {fs : List Flow} {k : Nat} (hr : runF l fs = ((runF r (fs.drop k)).1, (runF r (fs.drop k)).2 + k)) (hk : fs.length = k) : runF l fs = (r, k) := by
  rw [hr, List.drop_of_length_le (by omega)]; simp [runF]
theorem flows_no {l : List Basin} {fs : List Flow} (h : flowsOk l fs = false) : runFlowsR l fs = ([], 0, false) := by simp [runFlowsR, h]
theorem flows_yes {l r : List Basin} {fs : List Flow} {k : Nat} (h : flowsOk l fs = true) (g : runF l fs = (r, k)) : runFlowsR l fs = (r, (k : Int), true) := by simp [runFlowsR, h, g]
theorem flow_len {l r : List Basin} {f : Flow} (h : r.length = l.length) (hr : basinsOk r = true) (hf : validFlow l.length f = true) : flowOk r f = true := by simp [flowOk, hr, h, hf]
end Go.Proofs.Ytpgghmhbkgkkiaa
