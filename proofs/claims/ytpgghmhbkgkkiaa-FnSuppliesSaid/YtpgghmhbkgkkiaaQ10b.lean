/- Plain laws on lists of basins: what must be filled in again. No program in sight. -/
import Derived.Test.YtpgghmhbkgkkiaaC10f
import Derived.Test.YtpgghmhbkgkkiaaInts
namespace Go.Proofs.Ytpgghmhbkgkkiaa
open Go.RowKit
def needAt (m : List Basin) (i : Nat) : Int := match m[i]? with | some b => b.Least - b.Volume | none => 0
def ndK (nd : List Int) (m : List Basin) (k : Nat) : List Int := nd.mapIdx fun i x => if i < k then max x (needAt m i) else x
def ndL (nd : List Int) (m : List Basin) : List Int := nd.mapIdx fun i x => max x (needAt m i)
theorem ndK_len (nd : List Int) (m : List Basin) (k : Nat) : (ndK nd m k).length = nd.length := by simp [ndK]
theorem ndL_len (nd : List Int) (m : List Basin) : (ndL nd m).length = nd.length := by simp [ndL]
theorem ndK_zero (nd : List Int) (m : List Basin) : ndK nd m 0 = nd := by apply List.ext_getElem?; intro i; simp [ndK, List.getElem?_mapIdx]
theorem ndK_all {nd : List Int} {m : List Basin} {k : Nat} (h : nd.length = k) : ndK nd m k = ndL nd m := by
  apply List.ext_getElem?; intro i
  simp only [ndK, ndL, List.getElem?_mapIdx]
  by_cases hi : i < k
  · simp [hi]
  · rw [List.getElem?_eq_none (by omega)]; rfl
theorem ndK_at {nd : List Int} {m : List Basin} {k : Nat} {x : Int} (h : nd[k]? = some x) : (ndK nd m k)[k]? = some x := by simp [ndK, List.getElem?_mapIdx, h]
theorem ndK_step {nd : List Int} {m : List Basin} {k : Nat} {x : Int} {b : Basin} (h : nd[k]? = some x) (hb : m[k]? = some b) : (ndK nd m k).set k (max x (b.Least - b.Volume)) = ndK nd m (k + 1) := by
  have hk : k < nd.length := (List.getElem?_eq_some_iff.1 h).1
  apply List.ext_getElem?; intro i
  by_cases hi : i = k
  · subst hi
    rw [List.getElem?_set_self (by rw [ndK_len]; exact hk)]
    simp [ndK, List.getElem?_mapIdx, h, needAt, hb]
  · rw [List.getElem?_set_ne (fun e => hi e.symm)]
    simp only [ndK, List.getElem?_mapIdx]
    have : i < k ↔ i < k + 1 := by omega
    simp only [this]
def refillStep (s : List Int × List Basin) (f : Flow) : List Int × List Basin := (ndL s.1 (moveL s.2 f), moveL s.2 f)
def refillAll (l : List Basin) (fs : List Flow) : List Int × List Basin := fs.foldl refillStep (List.replicate l.length 0, l)
def refillR (l : List Basin) (fs : List Flow) : List Int × Bool := if flowsOk l fs = true then ((refillAll l fs).1, true) else ([], false)
theorem refill_one {l : List Basin} {fs : List Flow} {k : Nat} {f : Flow} (h : fs[k]? = some f) : refillAll l (fs.take (k + 1)) = refillStep (refillAll l (fs.take k)) f := by
  rw [take_one h, refillAll, List.foldl_append]; rfl
theorem refill_no {l : List Basin} {fs : List Flow} (h : flowsOk l fs = false) : refillR l fs = ([], false) := by simp [refillR, h]
theorem refill_yes {l r : List Basin} {fs : List Flow} {nd : List Int} (h : flowsOk l fs = true) (g : refillAll l fs = (nd, r)) : refillR l fs = (nd, true) := by simp [refillR, h, g]
theorem int_set {l : List Int} {i : Nat} {x : Int} (h : l[i]? = some x) (a : Int) : (l.flatMap ci).set i (.int .i64 a) = (l.set i a).flatMap ci := by
  have := flat_set ci 1 ci_len l i x a h 0 (by omega) (.int .i64 a) rfl
  rwa [Nat.mul_one, Nat.add_zero] at this
theorem Sl.far {α : Type} {f : α → List Value} {k n : Nat} {w : World} {A : Option Addr} {l : List α} (h : Sl f k w A n l) {p : Addr} (hp : ∀ b o s, A = some ⟨b, o, s⟩ → b ≠ p.block) (u : Value) : Sl f k (w.setCell p u) A n l :=
  ⟨h.1, h.2.1, fun hn => let ⟨b, o, e, hc⟩ := h.2.2 hn; ⟨b, o, e, fun i x hi j v hv => (World.cell?_setCell_other w p _ u (fun e2 => hp b o none e (by rw [e2]))).trans (hc i x hi j v hv)⟩⟩
theorem Sl.alloc_ {α : Type} {f : α → List Value} {k n : Nat} {w : World} {A : Option Addr} {l : List α} (h : Sl f k w A n l) (o : Obj) : Sl f k (w.alloc o) A n l := h.bl ((Bl.refl w).alloc o)
theorem zeros_flat (n : Nat) : (madeCells (Value.int .i64 0).cells (n * 1)).toList = (List.replicate n (0 : Int)).flatMap ci := by
  apply List.ext_getElem?
  intro j
  by_cases hj : j < n
  · have := flat_get ci 1 ci_len (List.replicate n (0 : Int)) j 0 (by simp [hj]) 0 (by omega)
    rw [Nat.mul_one, Nat.add_zero] at this
    rw [this]
    have hm : j % 1 = 0 := Nat.mod_one j
    simp [madeCells, ci, Value.cells, hj, hm]
  · rw [List.getElem?_eq_none (by simp [madeCells, Value.cells]; omega), List.getElem?_eq_none (by rw [flat_len ci 1 ci_len]; simp; omega)]
end Go.Proofs.Ytpgghmhbkgkkiaa
