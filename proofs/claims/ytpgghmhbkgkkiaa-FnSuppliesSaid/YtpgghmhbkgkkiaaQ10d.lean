/- Plain laws on lists of basins: what the laws on water ask. No program in sight. -/
import Derived.Test.YtpgghmhbkgkkiaaQ10
namespace Go.Proofs.Ytpgghmhbkgkkiaa
open Go.RowKit
theorem total_off (f : Flow) : ∀ (l : List Basin) (a : Nat), ((l.mapIdx fun i b => volB f (i + a) b).map (·.Volume)).sum = totalOf l + (if (a : Int) ≤ f.To ∧ f.To < (a : Int) + l.length then f.Volume else 0) - (if (a : Int) ≤ f.From ∧ f.From < (a : Int) + l.length then f.Volume else 0) := by
  intro l
  induction l with
  | nil => intro a; simp [totalOf]; split <;> split <;> omega
  | cons b l ih =>
    intro a
    rw [List.mapIdx_cons, List.map_cons, List.sum_cons]
    have h := ih (a + 1)
    have e : (fun (i : Nat) (b : Basin) => volB f (i + 1 + a) b) = fun i b => volB f (i + (a + 1)) b := by
      funext i b; rw [Nat.add_assoc, Nat.add_comm 1 a]
    rw [e, h]
    simp only [volB, totalOf, List.map_cons, List.sum_cons, List.length_cons]
    simp only [Nat.zero_add]
    have c1 : ((a : Int) + 1 ≤ f.To ∧ f.To < (a : Int) + 1 + l.length) ∨ ¬ ((a : Int) + 1 ≤ f.To ∧ f.To < (a : Int) + 1 + l.length) := Decidable.em _
    push_cast
    split <;> split <;> split <;> split <;> split <;> split <;> omega
theorem total_move {l : List Basin} {f : Flow} (hv : validFlow l.length f = true) : totalOf (moveL l f) = totalOf l + net1 f := by
  have h := total_off f l 0
  have hf := valid_flow hv
  show ((l.mapIdx fun i b => volB f i b).map (·.Volume)).sum = _
  simp only [Nat.add_zero] at h
  rw [h, net1]
  split <;> split <;> split <;> split <;> omega
theorem run_facts : ∀ (fs : List Flow) (l : List Basin), basinsOk l = true → fs.all (validFlow l.length) = true →
    (runF l fs).2 ≤ fs.length ∧ (runF l fs).1.length = l.length ∧ basinsOk (runF l fs).1 = true ∧ totalOf (runF l fs).1 = totalOf l + netOf (fs.take (runF l fs).2) ∧ ∀ f, fs[(runF l fs).2]? = some f → basinsOk (moveL (runF l fs).1 f) = false := by
  intro fs
  induction fs with
  | nil => intro l hok _; simp [runF, hok, netOf]
  | cons f fs ih =>
    intro l hok hall
    simp only [List.all_cons, Bool.and_eq_true] at hall
    rw [runF]
    cases hm : basinsOk (moveL l f)
    · simp [hok, netOf, hm]
    · rw [if_pos rfl]
      obtain ⟨h1, h2, h3, h4, h5⟩ := ih (moveL l f) hm (by rw [moveL_len]; exact hall.2)
      simp only
      refine ⟨by simpa using h1, h2.trans (moveL_len l f), h3, ?_, ?_⟩
      · rw [h4, total_move hall.1, List.take_succ_cons]; simp only [netOf, List.map_cons, List.sum_cons]; omega
      · intro g hg; rw [List.getElem?_cons_succ] at hg; exact h5 g hg
/-- What FnWater asks of the flows one behind the other. -/
theorem water_run {l r : List Basin} {fs : List Flow} {v : Int} (h : runFlowsR l fs = (r, v, true)) :
    ∃ k : Nat, v = k ∧ k ≤ fs.length ∧ r.length = l.length ∧ totalWater l = (totalOf l, true) ∧ totalWater r = (totalOf r, true) ∧ netInflow l (fs.take k) = (netOf (fs.take k), true) ∧ totalOf r - totalOf l = netOf (fs.take k) ∧ basinsOk r = true ∧ (0 ≤ totalOf l ∧ totalOf l ≤ 600000) ∧ (0 ≤ totalOf r ∧ totalOf r ≤ 600000) ∧ ∀ f, fs[k]? = some f → moveWaterR r f = ([], false) := by
  rw [runFlowsR] at h
  split at h
  · rename_i hok
    have hp := flows_parts hok
    have hr := run_facts fs l hp.1 hp.2.2
    obtain ⟨rfl, rfl, _⟩ : (runF l fs).1 = r ∧ ((runF l fs).2 : Int) = v ∧ True := by
      simp only [Prod.mk.injEq] at h; exact ⟨h.1, h.2.1, trivial⟩
    obtain ⟨h1, h2, h3, h4, h5⟩ := hr
    have b1 := total_bd hp.1 l.length
    have b2 := total_bd h3 (runF l fs).1.length
    rw [List.take_length] at b1 b2
    refine ⟨(runF l fs).2, rfl, h1, h2, by rw [totalWater, if_pos hp.1], by rw [totalWater, if_pos h3], ?_, by omega, h3, b1, b2, fun f hf => moveR_bad (h5 f hf)⟩
    rw [netInflow, if_pos]
    simp only [flowsOk, Bool.and_eq_true, decide_eq_true_eq]
    exact ⟨hp.1, by rw [List.length_take]; omega, all_take' hp.2.2 _⟩
  · cases h
theorem move_back {l : List Basin} {f : Flow} : moveL (moveL l f) ⟨f.To, f.From, f.Volume⟩ = l := by
  apply List.ext_getElem?
  intro i
  cases e : l[i]? with
  | none => simp [moveL, List.getElem?_mapIdx, e]
  | some b =>
    rw [moveL_at (moveL_at e)]
    congr 1
    obtain ⟨v, a, m⟩ := b
    simp only [volB, Basin.mk.injEq, and_true]
    split <;> split <;> omega
/-- What FnWater asks of one flow. -/
theorem water_move {l y : List Basin} {f : Flow} (h : moveWaterR l f = (y, true)) : moveWaterR y ⟨f.To, f.From, f.Volume⟩ = (l, true) ∧ y.length = l.length := by
  rw [moveWaterR] at h
  split at h
  · rename_i hok
    obtain ⟨h1, h2⟩ := hok
    obtain rfl : moveL l f = y := by simp only [Prod.mk.injEq] at h; exact h.1
    simp only [flowOk, Bool.and_eq_true] at h1
    have hv := valid_flow h1.2
    refine ⟨?_, moveL_len l f⟩
    have e := moveR_yes (l := moveL l f) (f := ⟨f.To, f.From, f.Volume⟩) ?_ (by rw [move_back]; exact h1.1)
    · rw [move_back] at e; exact e
    · simp only [flowOk, Bool.and_eq_true]
      refine ⟨h2, ?_⟩
      rw [moveL_len]
      simp only [validFlow, Bool.and_eq_true, inB_iff, decide_eq_true_eq]
      omega
  · cases h
theorem total_snd (l : List Basin) : (totalWater l).2 = basinsOk l := by
  rw [totalWater]; split <;> rename_i h
  · exact h.symm
  · simpa using h
end Go.Proofs.Ytpgghmhbkgkkiaa
