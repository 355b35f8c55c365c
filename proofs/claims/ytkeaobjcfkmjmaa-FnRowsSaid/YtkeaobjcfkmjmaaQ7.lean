/- Plain laws on rows of vessels: where they are placed, who is the most dangerous. No program in sight. -/
import Derived.Test.YtkeaobjcfkmjmaaC7c
import Derived.Test.YtkeaobjcfkmjmaaBase3
import Derived.Test.YtkeaobjcfkmjmaaHInt
namespace Go.Proofs.Ytkeaobjcfkmjmaa
open Go.RowKit
def carAt (l : List Cargo) (i : Nat) : Cargo := (l[i]?).getD ⟨0, 0, 0⟩
theorem carAt_eq {l : List Cargo} {i : Nat} {p : Cargo} (h : l[i]? = some p) : carAt l i = p := by simp [carAt, h]
def outAt (o : List Int) (i : Nat) : Int := (o[i]?).getD 0
theorem outAt_eq {o : List Int} {i : Nat} {x : Int} (h : o[i]? = some x) : outAt o i = x := by simp [outAt, h]
def cellK (l : List Cargo) (o : List Int) (e : Int) (c : Cargo) : Nat → Int
  | 0 => e
  | k + 1 => max (cellK l o e c k) (outAt o k + (carAt l k).Length + gapZ (carAt l k).Cones c.Cones)
def placeS (l : List Cargo) : Nat → List Int × Int
  | 0 => ([], 0)
  | i + 1 => ((placeS l i).1 ++ [cellK l (placeS l i).1 (placeS l i).2 (carAt l i) i], cellK l (placeS l i).1 (placeS l i).2 (carAt l i) i + (carAt l i).Length)
def placeR (l : List Cargo) : List Int × Bool := if cargoOk l = true then ((placeS l l.length).1, true) else ([], false)
def extentR (l : List Cargo) : Int × Bool := if cargoOk l = true then ((placeS l l.length).2, true) else (0, false)
theorem gap_bd {x y : Int} (h0 : 0 ≤ x) (h1 : x ≤ 3) (h2 : 0 ≤ y) (h3 : y ≤ 3) : 0 ≤ gapZ x y ∧ gapZ x y ≤ 5 := by unfold gapZ; split <;> omega
theorem cellK_one {l : List Cargo} {o : List Int} {e : Int} {c p : Cargo} {k : Nat} {x : Int} (hp : l[k]? = some p) (hx : o[k]? = some x) : cellK l o e c (k + 1) = max (cellK l o e c k) (x + p.Length + gapZ p.Cones c.Cones) := by
  rw [cellK, carAt_eq hp, outAt_eq hx]
structure Pk (i : Nat) (s : List Int × Int) : Prop where
  len : s.1.length = i
  e0 : 0 ≤ s.2
  e1 : s.2 ≤ 26 * (i : Int)
  out : ∀ (k : Nat) (x : Int), s.1[k]? = some x → 0 ≤ x ∧ x ≤ 26 * (i : Int)
theorem cellK_bd {l : List Cargo} (hl : cargoOk l = true) {i : Nat} {s : List Int × Int} (h : Pk i s) {c : Cargo} (hi : l[i]? = some c) : ∀ k, k ≤ i → 0 ≤ cellK l s.1 s.2 c k ∧ cellK l s.1 s.2 c k ≤ 26 * (i : Int) + 13 := by
  intro k
  induction k with
  | zero => intro _; have := h.e0; have := h.e1; simp only [cellK]; omega
  | succ k ih =>
    intro hk
    have h1 := ih (by omega)
    have hil : i < l.length := (List.getElem?_eq_some_iff.1 hi).1
    have hp : l[k]? = some (l[k]'(by omega)) := List.getElem?_eq_getElem (by omega)
    have hx : s.1[k]? = some (s.1[k]'(by have := h.len; omega)) := List.getElem?_eq_getElem (by have := h.len; omega)
    generalize l[k]'(by omega) = p at hp
    generalize s.1[k]'(by have := h.len; omega) = x at hx
    rw [cellK_one hp hx]
    have b1 := cargo_at hl hp
    have b2 := cargo_at hl hi
    have b3 := h.out k x hx
    have b4 := gap_bd b1.2.2.1 b1.2.2.2 b2.2.2.1 b2.2.2.2
    omega
theorem pk_zero (l : List Cargo) : Pk 0 (placeS l 0) := ⟨rfl, by simp [placeS], by simp [placeS], fun k x h => by simp [placeS] at h⟩
theorem pk_step {l : List Cargo} (hl : cargoOk l = true) {i : Nat} {c : Cargo} (hi : l[i]? = some c) (h : Pk i (placeS l i)) : Pk (i + 1) (placeS l (i + 1)) := by
  have hb := cellK_bd hl h hi i (Nat.le_refl _)
  have b := cargo_at hl hi
  have e : carAt l i = c := carAt_eq hi
  refine ⟨by simp [placeS, h.len], by simp only [placeS, e]; omega, ?_, ?_⟩
  · simp only [placeS, e]; omega
  · intro k x hx
    simp only [placeS, e] at hx
    by_cases hk : k < i
    · rw [List.getElem?_append_left (by have := h.len; omega)] at hx
      have := h.out k x hx
      omega
    · have hl2 := h.len
      rw [List.getElem?_append_right (by omega)] at hx
      have hz : k - (placeS l i).1.length = 0 := by have := (List.getElem?_eq_some_iff.1 hx).1; simp at this; omega
      rw [hz] at hx
      have := Option.some.inj hx
      subst this
      omega
end Go.Proofs.Ytkeaobjcfkmjmaa
