/- Plain laws on rows of cargo that have been placed. No program in sight. -/
import Derived.Test.YtkeaobjcfkmjmaaQ7f
import Derived.Test.YtkeaobjcfkmjmaaC7n
import Derived.Test.YtkeaobjcfkmjmaaC7p
import Derived.Test.YtkeaobjcfkmjmaaC7r
namespace Go.Proofs.Ytkeaobjcfkmjmaa
theorem cellK_up (l : List Cargo) (o : List Int) (e : Int) (c : Cargo) (k : Nat) : cellK l o e c k ≤ cellK l o e c (k + 1) := by
  rw [cellK.eq_def l o e c (k + 1)]
  simp only
  omega
theorem cellK_ge {l : List Cargo} {o : List Int} {e : Int} {c p : Cargo} {x : Int} {j : Nat} (hp : l[j]? = some p) (hx : o[j]? = some x) : ∀ k, j < k → x + p.Length + gapZ p.Cones c.Cones ≤ cellK l o e c k
  | 0, h => absurd h (by omega)
  | k + 1, h => by
    by_cases e1 : j = k
    · subst e1
      rw [cellK_one hp hx]; omega
    · exact Int.le_trans (cellK_ge hp hx k (by omega)) (cellK_up l o e c k)
theorem placeS_one (l : List Cargo) (i : Nat) : (placeS l (i + 1)).1 = (placeS l i).1 ++ [cellK l (placeS l i).1 (placeS l i).2 (carAt l i) i] := rfl
theorem placeS_pre {l : List Cargo} {i j : Nat} {x : Int} (h : (placeS l i).1[j]? = some x) : ∀ k, i ≤ k → (placeS l k).1[j]? = some x
  | 0, hk => by obtain rfl : i = 0 := by omega
                exact h
  | k + 1, hk => by
    by_cases e : i = k + 1
    · subst e; exact h
    · have ih := placeS_pre h k (by omega)
      rw [placeS_one, List.getElem?_append_left (List.getElem?_eq_some_iff.1 ih).1]
      exact ih
section
variable {l : List Cargo}
theorem placed_gap (hl : cargoOk l = true) {i k : Nat} {a b : Cargo} {x y : Int} (hik : i < k) (ha : l[i]? = some a) (hb : l[k]? = some b) (hx : (placeS l l.length).1[i]? = some x) (hy : (placeS l l.length).1[k]? = some y) : x + a.Length + gapZ a.Cones b.Cones ≤ y := by
  have hk : k < l.length := (List.getElem?_eq_some_iff.1 hb).1
  have hlen := (pk_all hl k (by omega)).len
  have h1 : (placeS l (k + 1)).1[k]? = some (cellK l (placeS l k).1 (placeS l k).2 b k) := by
    rw [placeS_one, carAt_eq hb, List.getElem?_append_right (by omega), hlen]; simp
  have h2 := placeS_pre h1 l.length (by omega)
  rw [hy] at h2
  obtain rfl := Option.some.inj h2
  have h3 : (placeS l k).1[i]? = some ((placeS l k).1[i]'(by omega)) := List.getElem?_eq_getElem (by omega)
  have h4 := placeS_pre h3 l.length (by omega)
  rw [hx] at h4
  have h5 := Option.some.inj h4
  rw [← h5] at h3
  exact cellK_ge ha h3 k hik
theorem placed_ok (hl : cargoOk l = true) : rowOk l (placeS l l.length).1 = true := by
  have hp := pk_all hl l.length (Nat.le_refl _)
  have h6 := cargo_len hl
  simp only [rowOk, Bool.and_eq_true, decide_eq_true_eq]
  refine ⟨?_, hl, hp.len⟩
  rw [cellsOk, List.all_eq_true]
  intro x hx
  obtain ⟨k, hk⟩ := List.mem_iff_getElem?.1 hx
  have := hp.out k x hk
  rw [inB_iff]
  omega
theorem placed_none (hl : cargoOk l = true) : pairsOf l (placeS l l.length).1 = [] := by
  rw [List.eq_nil_iff_forall_not_mem]
  intro p hp
  obtain ⟨i, k, _, _, h⟩ := (pairs_mem _ _).1 hp
  obtain ⟨a, b, x, y, ha, hb, hx, hy, hik, hu, _⟩ := prP_iff.1 h
  have := placed_gap hl hik ha hb hx hy
  simp only [unsafeB, Bool.and_eq_true, decide_eq_true_eq] at hu
  omega
theorem placed_tab (hl : cargoOk l = true) {T : List (Int × Int)} (h : TabOf l (placeS l l.length).1 T) : T = [] := by
  have := (h.1 (placed_ok hl)).1
  rw [placed_none hl] at this
  exact List.perm_nil.1 this
theorem placed_safe (hl : cargoOk l = true) : safeR l (placeS l l.length).1 = (true, true) := by
  rw [safeR, if_pos (placed_ok hl), placed_none hl]; rfl
/-- What the shortest row is. -/
def shortT (l : List Cargo) : List Cargo := (contC l.length [] (ascC l)).1
theorem short_perm (hl : cargoOk l = true) : (shortT l).Perm l ∧ shortR l = (((shortT l).map (·.Id), extOf (shortT l)), true) ∧ extOf (shortT l) ≤ extOf l := by
  have hla : (ascC l).length = l.length := (asc_perm l).length_eq
  obtain ⟨h1, h2⟩ := contC_perm hl l.length [] (ascC l) (asc_perm l) hla
  have h3 := contC_best hl l.length [] (ascC l) (asc_perm l) hla l (List.Perm.refl _) rfl
  refine ⟨h1, ?_, ?_⟩
  · rw [shortR, if_pos hl, h2]; rfl
  · rw [h2] at h3; exact h3
theorem perm_ok {T : List Cargo} (hl : cargoOk l = true) (h : T.Perm l) : cargoOk T = true := cargo_sub hl (row := T) (rest := []) (by rw [List.append_nil]; exact h)
theorem extent_yes {T : List Cargo} (h : cargoOk T = true) : extentR T = (extOf T, true) := if_pos h
theorem place_yes (h : cargoOk l = true) : placeR l = ((placeS l l.length).1, true) := if_pos h
/-- In the first k. -/
def inn (l : List Cargo) (x : Cargo) (k : Nat) : List Cargo := if x ∈ l.take k then [x] else []
theorem inn_0 (x : Cargo) : inn l x 0 = [] := by simp [inn]
theorem inn_all {x : Cargo} (hx : x ∈ l) {k : Nat} (hk : l.length = k) : inn l x k = [x] := by rw [inn, take_all hk, if_pos hx]
theorem inn_yes (hl : cargoOk l = true) {x : Cargo} {k : Nat} (h : l[k]? = some x) : inn l x k = [] ∧ inn l x (k + 1) = [x] := by
  have hn := cargo_nodup hl
  refine ⟨?_, ?_⟩
  · rw [inn, if_neg]
    intro hx
    obtain ⟨j, hj⟩ := List.mem_iff_getElem?.1 hx
    rw [List.getElem?_take] at hj
    split at hj
    · rename_i hjk
      have hlt := (List.getElem?_eq_some_iff.1 hj).1
      have := (List.getElem?_inj hlt hn).1 (hj.trans h.symm)
      omega
    · cases hj
  · rw [inn, if_pos]
    rw [take_one h]; simp
theorem inn_no {x y : Cargo} {k : Nat} (h : l[k]? = some y) (hxy : ¬ y = x) : inn l x (k + 1) = inn l x k := by
  have : x ∈ l.take (k + 1) ↔ x ∈ l.take k := by
    rw [take_one h]; simp only [List.mem_append, List.mem_singleton]
    exact ⟨fun e => e.elim id (fun e => absurd e.symm hxy), .inl⟩
  simp only [inn, this]
end
end Go.Proofs.Ytkeaobjcfkmjmaa
