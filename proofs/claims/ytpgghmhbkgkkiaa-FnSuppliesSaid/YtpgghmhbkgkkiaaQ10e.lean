/- Plain laws on lists of basins: what the laws on supplies ask. No program in sight. -/
import Derived.Test.YtpgghmhbkgkkiaaQ10c
import Derived.Test.YtpgghmhbkgkkiaaQ10d
import Derived.Test.YtpgghmhbkgkkiaaQ10b
namespace Go.Proofs.Ytpgghmhbkgkkiaa
open Go.RowKit
theorem moveL_of {l : List Basin} {f : Flow} {i : Nat} {b : Basin} (h : (moveL l f)[i]? = some b) : ∃ c, l[i]? = some c ∧ b = volB f i c := by
  simp only [moveL, List.getElem?_mapIdx] at h
  cases e : l[i]? with
  | none => rw [e] at h; cases h
  | some c => rw [e] at h; exact ⟨c, rfl, (Option.some.inj h).symm⟩
theorem move_good {l : List Basin} {f : Flow} (hok : basinsOk l = true) (hv : 0 ≤ f.Volume) (h1 : ∀ (i : Nat) (p : Basin), l[i]? = some p → (i : Int) = f.From → f.Volume ≤ p.Volume - p.Least) (h2 : ∀ (i : Nat) (p : Basin), l[i]? = some p → (i : Int) = f.To → f.Volume ≤ p.Most - p.Volume) : basinsOk (moveL l f) = true := by
  have hl := bas_len hok
  simp only [basinsOk, Bool.and_eq_true, inB_iff, moveL_len]
  refine ⟨by omega, ?_⟩
  rw [List.all_eq_true]
  intro b hb
  obtain ⟨i, hi⟩ := List.mem_iff_getElem?.1 hb
  obtain ⟨c, hc, rfl⟩ := moveL_of hi
  have bc := bas_at hok hc
  have q1 := h1 i c hc
  have q2 := h2 i c hc
  rw [validBasin_iff]
  simp only [volB]
  split <;> split <;> rename_i g1 g2
  · have := q1 g1; have := q2 g2; omega
  · have := q1 g1; omega
  · have := q2 g2; omega
  · omega
theorem move_from {l : List Basin} {f : Flow} {i : Nat} {p : Basin} (hi : l[i]? = some p) (hf : (i : Int) = f.From) (hne : f.From ≠ f.To) (h : p.Volume - p.Least < f.Volume) : basinsOk (moveL l f) = false := by
  cases e : basinsOk (moveL l f)
  · rfl
  · have := bas_at e (moveL_at hi)
    rw [volB_from hf (by omega)] at this
    simp only at this
    omega
theorem move_to {l : List Basin} {f : Flow} {i : Nat} {p : Basin} (hi : l[i]? = some p) (hf : (i : Int) = f.To) (hne : f.From ≠ f.To) (h : p.Most - p.Volume < f.Volume) : basinsOk (moveL l f) = false := by
  cases e : basinsOk (moveL l f)
  · rfl
  · have := bas_at e (moveL_at hi)
    rw [volB_to (by omega) hf] at this
    simp only at this
    omega
theorem mul_bd' {x y X Y : Int} (hx : 0 ≤ x) (hX : x ≤ X) (hy : 0 ≤ y) (hY : y ≤ Y) : 0 ≤ x * y ∧ x * y ≤ X * Y :=
  ⟨Int.mul_nonneg hx hy, Int.mul_le_mul hX hY hy (by omega)⟩
theorem nat_of {x : Int} {n : Nat} (h0 : -1 ≤ x) (h1 : x ≤ (n : Int) - 1) : x = -1 ∨ ∃ i : Nat, x = i ∧ i < n := by
  by_cases h : x = -1
  · exact .inl h
  · exact .inr ⟨x.toNat, by omega, by omega⟩
/-- What FnSupplies asks of the most lockages. -/
theorem supply_most {l : List Basin} {x y z n : Int} (h : mostLockages l x y z = (n, true)) :
    (0 ≤ n ∧ n ≤ 100000) ∧ (1 ≤ z ∧ z ≤ 100000) ∧ (n * z < 100000 → (0 < n → (moveWaterR l ⟨x, y, n * z⟩).2 = true) ∧ (moveWaterR l ⟨x, y, (n + 1) * z⟩).2 = false) := by
  rw [mostLockages] at h
  split at h
  · rename_i hfl
    obtain ⟨hok, hv⟩ := flow_parts hfl
    obtain ⟨v1, v2, v3, v4, v5, v6, v7⟩ := valid_flow hv
    simp only at v1 v2 v3 v4 v5 v6 v7
    obtain ⟨rfl, _⟩ : cntR l x y z = n ∧ True := by simp only [Prod.mk.injEq] at h; exact ⟨h.1, trivial⟩
    have hz : (0 : Int) < z := by omega
    have lo : ∀ {d k : Int}, k ≤ d / z → k * z ≤ d := fun hk => (Int.le_ediv_iff_mul_le hz).1 hk
    have hi : ∀ {d k : Int}, d / z < k → d < k * z := fun hk => (Int.ediv_lt_iff_lt_mul hz).1 hk
    have key : ∃ n : Int, cntR l x y z = n ∧ 0 ≤ n ∧ n ≤ 100000 ∧ (∀ (i : Nat) (p : Basin), l[i]? = some p → (i : Int) = x → n * z ≤ p.Volume - p.Least) ∧ (∀ (i : Nat) (p : Basin), l[i]? = some p → (i : Int) = y → n * z ≤ p.Most - p.Volume) ∧ (n = 100000 ∨ (∃ (i : Nat) (p : Basin), l[i]? = some p ∧ (i : Int) = x ∧ p.Volume - p.Least < (n + 1) * z) ∨ ∃ (i : Nat) (p : Basin), l[i]? = some p ∧ (i : Int) = y ∧ p.Most - p.Volume < (n + 1) * z) := by
      rcases nat_of v1 v2 with hx | ⟨i, hx, hil⟩
      · rcases nat_of v3 v4 with hy | ⟨j, hy, hjl⟩
        · omega
        · have ej : l[j]? = some l[j] := List.getElem?_eq_getElem hjl
          have bj := bas_at hok ej
          subst hy
          refine ⟨_, cnt_to hx ej, ?_, by omega, ?_, ?_, ?_⟩
          · have : 0 ≤ (l[j].Most - l[j].Volume) / z := Int.ediv_nonneg (by omega) (by omega)
            omega
          · intro i p _ hh; omega
          · intro i p hp hh
            obtain rfl : i = j := by omega
            rw [ej] at hp; obtain rfl := Option.some.inj hp
            exact lo (by omega)
          · by_cases hc : 100000 ≤ (l[j].Most - l[j].Volume) / z
            · exact .inl (by omega)
            · exact .inr (.inr ⟨j, _, ej, rfl, hi (by omega)⟩)
      · have ei : l[i]? = some l[i] := List.getElem?_eq_getElem hil
        have bi := bas_at hok ei
        subst hx
        have p1 : 0 ≤ (l[i].Volume - l[i].Least) / z := Int.ediv_nonneg (by omega) (by omega)
        rcases nat_of v3 v4 with hy | ⟨j, hy, hjl⟩
        · refine ⟨_, cnt_from hy ei, by omega, by omega, ?_, ?_, ?_⟩
          · intro k p hp hh
            obtain rfl : k = i := by omega
            rw [ei] at hp; obtain rfl := Option.some.inj hp
            exact lo (by omega)
          · intro k p _ hh; omega
          · by_cases hc : 100000 ≤ (l[i].Volume - l[i].Least) / z
            · exact .inl (by omega)
            · exact .inr (.inl ⟨i, _, ei, rfl, hi (by omega)⟩)
        · have ej : l[j]? = some l[j] := List.getElem?_eq_getElem hjl
          have bj := bas_at hok ej
          subst hy
          have p2 : 0 ≤ (l[j].Most - l[j].Volume) / z := Int.ediv_nonneg (by omega) (by omega)
          refine ⟨_, cnt_both ei ej, by omega, by omega, ?_, ?_, ?_⟩
          · intro k p hp hh
            obtain rfl : k = i := by omega
            rw [ei] at hp; obtain rfl := Option.some.inj hp
            exact lo (by omega)
          · intro k p hp hh
            obtain rfl : k = j := by omega
            rw [ej] at hp; obtain rfl := Option.some.inj hp
            exact lo (by omega)
          · by_cases hc : 100000 ≤ min ((l[i].Volume - l[i].Least) / z) ((l[j].Most - l[j].Volume) / z)
            · exact .inl (by omega)
            · by_cases hd : (l[i].Volume - l[i].Least) / z ≤ (l[j].Most - l[j].Volume) / z
              · exact .inr (.inl ⟨i, _, ei, rfl, hi (by omega)⟩)
              · exact .inr (.inr ⟨j, _, ej, rfl, hi (by omega)⟩)
    obtain ⟨n, hcn, n0, n1, k1, k2, k3⟩ := key
    rw [hcn]
    refine ⟨⟨n0, n1⟩, ⟨v6, v7⟩, fun hn => ?_⟩
    have hn1 : n < 100000 := by
      rcases Int.lt_or_le n 100000 with h9 | h9
      · exact h9
      · have : 100000 * 1 ≤ n * z := Int.mul_le_mul h9 v6 (by decide) (by omega)
        omega
    refine ⟨?_, ?_⟩
    · intro hpos
      have hm : 1 * 1 ≤ n * z := Int.mul_le_mul hpos v6 (by decide) (by omega)
      rw [moveR_yes]
      · simp only [flowOk, Bool.and_eq_true]
        refine ⟨hok, ?_⟩
        simp only [validFlow, Bool.and_eq_true, inB_iff, decide_eq_true_eq]
        omega
      · exact move_good hok (by simp only; omega) k1 k2
    · rw [moveR_bad]
      rcases k3 with h9 | ⟨i, p, hp, hi, hlt⟩ | ⟨i, p, hp, hi, hlt⟩
      · omega
      · exact move_from hp hi v5 hlt
      · exact move_to hp hi v5 hlt
  · cases h
/-- What FnSupplies asks of the leveling. -/
theorem level_facts : ∀ (f : Nat) (r : List Basin), basinsOk r = true → pot r ≤ f → basinsOk (levelOf r) = true ∧ stops (levelOf r) = true ∧ totalOf (levelOf r) = totalOf r ∧ (levelOf r).length = r.length := by
  intro f
  induction f with
  | zero =>
    intro r hok hf
    cases hs : stops r
    · obtain ⟨_, _, g3⟩ := goes_ok hok (goes_of hok hs)
      omega
    · rw [level_end hs]; exact ⟨hok, hs, rfl, rfl⟩
  | succ f ih =>
    intro r hok hf
    cases hs : stops r
    · obtain ⟨g1, g2, g3⟩ := goes_ok hok (goes_of hok hs)
      rw [level_go hok hs]
      obtain ⟨h1, h2, h3, h4⟩ := ih (moveL r (theFlow r)) g2 (by have : pot (moveL r (theFlow r)) < pot r := g3; omega)
      refine ⟨h1, h2, ?_, h4.trans (moveL_len _ _)⟩
      rw [h3, total_move (f := theFlow r) g1]
      have e1 : ¬ ((theFlow r).From = -1) := by show ¬ ((fromK r r.length : Int) = -1); omega
      have e2 : ¬ ((theFlow r).To = -1) := by show ¬ ((toK r r.length : Int) = -1); omega
      rw [net_zero e1 e2]; omega
    · rw [level_end hs]; exact ⟨hok, hs, rfl, rfl⟩
theorem supply_level {l y : List Basin} (h : levelR l = (y, true)) : totalWater l = (totalOf l, true) ∧ totalWater y = (totalOf l, true) ∧ levelR y = (y, true) ∧ basinsOk y = true := by
  rw [levelR] at h
  split at h
  · rename_i hok
    obtain rfl : levelOf l = y := by simp only [Prod.mk.injEq] at h; exact h.1
    obtain ⟨h1, h2, h3, h4⟩ := level_facts _ l hok (Nat.le_refl _)
    refine ⟨by rw [totalWater, if_pos hok], by rw [totalWater, if_pos h1, h3], ?_, h1⟩
    rw [levelR, if_pos h1, level_end h2]
  · cases h
/-! ### what is refilled -/
def rfF (fs : List Flow) (nd : List Int) (m : List Basin) : List Int := (fs.foldl refillStep (nd, m)).1
theorem rf_one (f : Flow) (fs : List Flow) (nd : List Int) (m : List Basin) : rfF (f :: fs) nd m = rfF fs (ndL nd (moveL m f)) (moveL m f) := rfl
theorem ndL_at {nd : List Int} {m : List Basin} {i : Nat} {x : Int} (h : nd[i]? = some x) : (ndL nd m)[i]? = some (max x (needAt m i)) := by simp [ndL, List.getElem?_mapIdx, h]
theorem ndL_same {nd : List Int} {m : List Basin} (h : ∀ (i : Nat) (x : Int), nd[i]? = some x → needAt m i ≤ x) : ndL nd m = nd := by
  apply List.ext_getElem?
  intro i
  cases e : nd[i]? with
  | none => simp [ndL, List.getElem?_mapIdx, e]
  | some x => rw [ndL_at e]; congr 1; have := h i x e; omega
theorem rf_len : ∀ (fs : List Flow) (nd : List Int) (m : List Basin), (rfF fs nd m).length = nd.length := by
  intro fs
  induction fs with
  | nil => intro nd m; rfl
  | cons f fs ih => intro nd m; rw [rf_one, ih, ndL_len]
theorem rf_mono : ∀ (fs : List Flow) (nd : List Int) (m : List Basin) (i : Nat) (x y : Int), nd[i]? = some x → (rfF fs nd m)[i]? = some y → x ≤ y := by
  intro fs
  induction fs with
  | nil => intro nd m i x y h g; simp only [rfF, List.foldl_nil] at g; rw [h] at g; have := Option.some.inj g; omega
  | cons f fs ih =>
    intro nd m i x y h g
    rw [rf_one] at g
    have := ih _ _ i _ y (ndL_at h) g
    omega
theorem need_ok {m : List Basin} (h : basinsOk m = true) (i : Nat) : needAt m i ≤ 0 := by
  simp only [needAt]
  split
  · rename_i b e; have := bas_at h e; omega
  · omega
theorem rf_run : ∀ (fs : List Flow) (nd : List Int) (m : List Basin), (∀ (i : Nat) (x : Int), nd[i]? = some x → 0 ≤ x) → (runF m fs).2 = fs.length → rfF fs nd m = nd := by
  intro fs
  induction fs with
  | nil => intro nd m _ _; rfl
  | cons f fs ih =>
    intro nd m hn hr
    rw [runF] at hr
    split at hr
    · rename_i hok
      have e : ndL nd (moveL m f) = nd := ndL_same fun i x hx => by have := need_ok hok i; have := hn i x hx; omega
      rw [rf_one, e]
      exact ih nd _ hn (by simpa using hr)
    · simp at hr
theorem rf_bd : ∀ (fs : List Flow) (nd : List Int) (m : List Basin) (X : Int), Small X m → 0 ≤ X → (∀ f ∈ fs, 0 ≤ f.Volume ∧ f.Volume ≤ 100000) → (∀ (i : Nat) (x : Int), nd[i]? = some x → 0 ≤ x ∧ x ≤ X + 100000) →
    ∀ (i : Nat) (x : Int), (rfF fs nd m)[i]? = some x → 0 ≤ x ∧ x ≤ X + 100000 + 100000 * fs.length := by
  intro fs
  induction fs with
  | nil => intro nd m X hs hX hf hn i x hx; have := hn i x hx; simpa using this
  | cons f fs ih =>
    intro nd m X hs hX hf hn i x hx
    rw [rf_one] at hx
    have hv := hf f (List.mem_cons_self ..)
    have hs' := small_move hs hv.1 hv.2
    have := ih (ndL nd (moveL m f)) (moveL m f) (X + 100000) hs' (by omega) (fun g hg => hf g (List.mem_cons_of_mem _ hg)) (fun j y hy => by
      cases e : nd[j]? with
      | none => simp [ndL, List.getElem?_mapIdx, e] at hy
      | some u =>
        rw [ndL_at e] at hy
        have hu := hn j u e
        have hy := Option.some.inj hy
        have hneed : needAt (moveL m f) j ≤ X + 200000 := by
          simp only [needAt]
          split
          · rename_i b eb; have := hs' j b eb; omega
          · omega
        omega) i x hx
    simp only [List.length_cons]
    omega
/-- Another list of basins, which hold by as much more as told. -/
def More (N : List Int) (m m' : List Basin) : Prop := ∀ (i : Nat) (b : Basin), m'[i]? = some b → ∃ c x, m[i]? = some c ∧ N[i]? = some x ∧ b.Volume = c.Volume + x ∧ b.Least = c.Least
theorem more_move {N : List Int} {m m' : List Basin} (h : More N m m') (f : Flow) : More N (moveL m f) (moveL m' f) := fun i b hb => by
  obtain ⟨c, hc, rfl⟩ := moveL_of hb
  obtain ⟨d, x, hd, hx, h1, h2⟩ := h i c hc
  refine ⟨volB f i d, x, moveL_at hd, hx, ?_, h2⟩
  simp only [volB]
  split <;> split <;> omega
theorem rf_more (N : List Int) : ∀ (fs : List Flow) (nd zs : List Int) (m m' : List Basin), More N m m' → nd.length = N.length → rfF fs nd m = N → (∀ (i : Nat) (x : Int), zs[i]? = some x → 0 ≤ x) → rfF fs zs m' = zs := by
  intro fs
  induction fs with
  | nil => intro nd zs m m' _ _ _ _; rfl
  | cons f fs ih =>
    intro nd zs m m' hm hl hN hz
    have hm1 := more_move hm f
    rw [rf_one] at hN ⊢
    have e : ndL zs (moveL m' f) = zs := ndL_same fun i x hx => by
      have h0 := hz i x hx
      simp only [needAt]
      split
      · rename_i b eb
        obtain ⟨c, y, hc, hy, h1, h2⟩ := hm1 i b eb
        have hi : i < nd.length := by rw [hl]; exact (List.getElem?_eq_some_iff.1 hy).1
        have hy' := hy
        rw [← hN] at hy'
        have := rf_mono fs _ _ i _ y (ndL_at (m := moveL m f) (List.getElem?_eq_getElem hi)) hy'
        have hn : needAt (moveL m f) i = c.Least - c.Volume := by simp [needAt, hc]
        omega
      · omega
    rw [e]
    exact ih (ndL nd (moveL m f)) zs _ _ hm1 (by rw [ndL_len, hl]) hN hz
def roomyL (l : List Basin) (N : List Int) : List Basin := l.mapIdx fun i b => ⟨b.Volume + (N[i]?).getD 0, b.Least, 100000⟩
theorem roomy_len (l : List Basin) (N : List Int) : (roomyL l N).length = l.length := by simp [roomyL]
theorem roomy_at {l : List Basin} {N : List Int} {i : Nat} {b : Basin} {x : Int} (h : l[i]? = some b) (g : N[i]? = some x) : (roomyL l N)[i]? = some ⟨b.Volume + x, b.Least, 100000⟩ := by simp [roomyL, List.getElem?_mapIdx, h, g]
theorem zeros_at {n i : Nat} {x : Int} (h : (List.replicate n (0 : Int))[i]? = some x) : 0 ≤ x := by
  have := List.eq_of_mem_replicate (List.mem_of_getElem? h); omega
/-- What FnSupplies asks of the refilling. -/
theorem supply_refill {l : List Basin} {fs : List Flow} {N : List Int} (h : refillR l fs = (N, true)) :
    N.length = l.length ∧ basinsOk l = true ∧ (∃ k : Nat, runFlowsR l fs = ((runF l fs).1, (k : Int), true) ∧ (k = fs.length → ∀ x ∈ N, x = 0)) ∧ (∀ (i : Nat) (x : Int), N[i]? = some x → 0 ≤ x ∧ x ≤ 1400000) ∧
    (basinsOk (roomyL l N) = true → ∃ Z, refillR (roomyL l N) fs = (Z, true) ∧ ∀ x ∈ Z, x = 0) := by
  rw [refillR] at h
  split at h
  · rename_i hok
    obtain ⟨hb, hlen, hall⟩ := flows_parts hok
    obtain rfl : (refillAll l fs).1 = N := by simp only [Prod.mk.injEq] at h; exact h.1
    have hdef : (refillAll l fs).1 = rfF fs (List.replicate l.length 0) l := rfl
    have hfl := rf_len fs (List.replicate l.length 0) l
    rw [List.length_replicate] at hfl
    have hbd := rf_bd fs (List.replicate l.length 0) l 100000 (small_ok hb) (by omega) (fun f hf => by have := valid_flow (List.all_eq_true.1 hall f hf); omega) (fun i x hx => by have := List.eq_of_mem_replicate (List.mem_of_getElem? hx); omega)
    rw [hdef]
    refine ⟨hfl, hb, ⟨(runF l fs).2, by rw [runFlowsR, if_pos hok], ?_⟩, fun i x hx => by have := hbd i x hx; omega, ?_⟩
    · intro hk x hx
      rw [rf_run fs _ l (fun i x hx => zeros_at hx) hk] at hx
      exact List.eq_of_mem_replicate hx
    · intro hr
      have hmore : More (rfF fs (List.replicate l.length 0) l) l (roomyL l (rfF fs (List.replicate l.length 0) l)) := by
        intro i b hbi
        have hi : i < l.length := by have := (List.getElem?_eq_some_iff.1 hbi).1; rw [roomy_len] at this; exact this
        have e1 : l[i]? = some l[i] := List.getElem?_eq_getElem hi
        have e2 : (rfF fs (List.replicate l.length 0) l)[i]? = some (rfF fs (List.replicate l.length 0) l)[i] := List.getElem?_eq_getElem (by rw [hfl]; exact hi)
        rw [roomy_at e1 e2] at hbi
        obtain rfl := Option.some.inj hbi
        exact ⟨_, _, e1, e2, rfl, rfl⟩
      have hz := rf_more _ fs _ (List.replicate (roomyL l (rfF fs (List.replicate l.length 0) l)).length 0) l _ hmore (by rw [hfl, List.length_replicate]) rfl (fun i x hx => zeros_at hx)
      refine ⟨_, refill_yes (nd := List.replicate (roomyL l (rfF fs (List.replicate l.length 0) l)).length 0) (r := (refillAll (roomyL l (rfF fs (List.replicate l.length 0) l)) fs).2) ?_ ?_, fun x hx => List.eq_of_mem_replicate hx⟩
      · simp only [flowsOk, Bool.and_eq_true, decide_eq_true_eq]
        rw [roomy_len]
        exact ⟨hr, hlen, hall⟩
      · exact Prod.ext hz rfl
  · cases h
end Go.Proofs.Ytpgghmhbkgkkiaa
