/- Plain laws on the suspect sensor. No program in sight. -/
import Derived.Test.YtmnbbnboaokgjaaQc
import Derived.Test.YtmnbbnboaokgjaaInts
import Derived.Test.YtmnbbnboaokgjaaQ6s
namespace Go.Proofs.Ytmnbbnboaokgjaa
abbrev Tri := Int × Int × Int
def bump (s : Tri) : Nat → Tri
  | 0 => (s.1 + 1, s.2.1, s.2.2)
  | 1 => (s.1, s.2.1 + 1, s.2.2)
  | _ => (s.1, s.2.1, s.2.2 + 1)
/-- The counts behind the first k sensors of a triple. -/
def rnd (l : List Int) (m : Int) (s : Tri) : Nat → Tri
  | 0 => s
  | k + 1 => if hasB (agreeK l m 3) (k : Int) = true then rnd l m s k else bump (rnd l m s k) k
/-- The counts behind the first i triples. -/
def tot (T : List (List Int)) (m : Int) : Nat → Tri
  | 0 => (0, 0, 0)
  | i + 1 => match T[i]? with
    | some l => rnd l m (tot T m i) 3
    | none => tot T m i
theorem rnd_has {l : List Int} {m : Int} {s : Tri} {k : Nat} (h : hasB (agreeK l m 3) (k : Int) = true) : rnd l m s (k + 1) = rnd l m s k := if_pos h
theorem rnd_not {l : List Int} {m : Int} {s : Tri} {k : Nat} (h : hasB (agreeK l m 3) (k : Int) = false) : rnd l m s (k + 1) = bump (rnd l m s k) k := if_neg (by simp [h])
theorem tot_one {T : List (List Int)} {m : Int} {i : Nat} {l : List Int} (h : T[i]? = some l) : tot T m (i + 1) = rnd l m (tot T m i) 3 := by simp only [tot, h]
def within (s : Tri) (b : Int) : Prop := (0 ≤ s.1 ∧ s.1 ≤ b) ∧ (0 ≤ s.2.1 ∧ s.2.1 ≤ b) ∧ (0 ≤ s.2.2 ∧ s.2.2 ≤ b)
theorem bump_in {s : Tri} {b : Int} (h : within s b) (k : Nat) : within (bump s k) (b + 1) := by
  obtain ⟨x, y, z⟩ := s
  unfold within at *
  rcases k with _ | _ | k <;> simp only [bump] at * <;> omega
theorem rnd_in {l : List Int} {m : Int} {s : Tri} {b : Int} (h : within s b) : ∀ k : Nat, within (rnd l m s k) (b + k)
  | 0 => by simpa [rnd] using h
  | k + 1 => by
    have ih := rnd_in (l := l) (m := m) h k
    cases e : hasB (agreeK l m 3) (k : Int)
    · rw [rnd_not e]
      have := bump_in ih k
      have e2 : b + (k : Int) + 1 = b + ((k + 1 : Nat) : Int) := by omega
      rwa [e2] at this
    · rw [rnd_has e]
      unfold within at *
      omega
theorem tot_in (T : List (List Int)) (m : Int) : ∀ i : Nat, within (tot T m i) (3 * i)
  | 0 => by simp [tot, within]
  | i + 1 => by
    have ih := tot_in T m i
    cases e : T[i]? with
    | none =>
      have : tot T m (i + 1) = tot T m i := by simp only [tot, e]
      rw [this]; unfold within at *; omega
    | some l =>
      rw [tot_one e]
      have := rnd_in (l := l) (m := m) ih 3
      unfold within at *
      omega
def mx3 (s : Tri) : Int := max (max s.1 s.2.1) s.2.2
def at3 (s : Tri) : Nat := if max s.1 s.2.1 < s.2.2 then 2 else if s.1 < s.2.1 then 1 else 0
def fin3 (s : Tri) : Int × Bool := if mx3 s = 0 then (0, false) else ((at3 s : Int), true)
def suspOk (T : List (List Int)) (m : Int) : Bool := inB (T.length : Int) 1 20 && (gauge m && T.all tripOk)
def suspR (T : List (List Int)) (m : Int) : Int × Bool := if suspOk T m = true then fin3 (tot T m T.length) else (0, false)
theorem susp_no {T : List (List Int)} {m : Int} (h : suspOk T m = false) : suspR T m = (0, false) := if_neg (by simp [h])
theorem susp_yes {T : List (List Int)} {m : Int} (h : suspOk T m = true) : suspR T m = fin3 (tot T m T.length) := if_pos h
theorem susp_row {T : List (List Int)} {m : Int} {i : Nat} {l : List Int} (hl : T[i]? = some l) (h : tripOk l = false) : suspR T m = (0, false) := susp_no (by rw [suspOk, all_not hl h]; simp)
theorem fin_0 {s : Tri} (h : mx3 s = 0) : fin3 s = (0, false) := if_pos h
theorem fin_1 {s : Tri} (h : ¬ mx3 s = 0) : fin3 s = ((at3 s : Int), true) := if_neg h
theorem maxK_3 (a b c : Int) : maxK [a, b, c] 3 = mx3 (a, b, c) := by
  simp [maxK, mx3]
theorem idx_3 {a b c i : Int} (h : isIdx [a, b, c] (mx3 (a, b, c)) i) : i = (at3 (a, b, c) : Int) := by
  simp only [mx3, at3] at *
  rcases h with ⟨_, h⟩ | ⟨k, rfl, h, h2⟩
  · exfalso
    rw [hasB_no] at h
    simp at h
    omega
  · rw [hasB_no] at h2
    have hk : k < 3 := by have := (List.getElem?_eq_some_iff.1 h).1; simpa using this
    have hc : k = 0 ∨ k = 1 ∨ k = 2 := by omega
    rcases hc with rfl | rfl | rfl
    · simp at h
      rw [if_neg (by omega), if_neg (by omega)]
    · simp at h h2
      rw [if_neg (by omega), if_pos (by omega)]
    · simp at h h2
      rw [if_pos (by omega)]
end Go.Proofs.Ytmnbbnboaokgjaa
