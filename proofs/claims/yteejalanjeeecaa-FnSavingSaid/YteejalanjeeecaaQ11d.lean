/- Plain laws on what draining saves. No program in sight. -/
import Derived.Test.YteejalanjeeecaaQ11b
import Derived.Test.YteejalanjeeecaaQ11c
namespace Go.Proofs.Yteejalanjeeecaa
open Go.RowKit
/-- What FnSaving asks of a draining. -/
theorem saving_drain {l N : List Pool} {o : List Int} {v : Int} (h : flowAllR true l o = (N, v, true)) : ∃ s p q, allWater l = (s, true) ∧ allWater N = (s, true) ∧ l[0]? = some p ∧ N[0]? = some q ∧ p.Water - q.Water = v ∧ (0 ≤ q.Water ∧ q.Water ≤ 100000) ∧ (0 ≤ p.Water ∧ p.Water ≤ 100000) := by
  obtain ⟨h1, h2, h3, h4, h5, h6, h7, h8⟩ := drain_facts h
  have hl := len_ok h1
  have e1 := at_getP (l := l) (i := 0) (by omega)
  have e2 := at_getP (l := N) (i := 0) (by omega)
  have v1 := at_ok h1 e1
  have v2 := at_ok h3 e2
  simp only [validPool, Bool.and_eq_true, inB_iff] at v1 v2
  exact ⟨waterOf l, _, _, by rw [allWater, if_pos h1], by rw [allWater, if_pos h3, h5], e1, e2, by omega, v2.2, v1.2⟩
theorem saving_best {l : List Pool} {b : List Int} {mo : Int} (h : bestDR l = ((b, mo), true)) : (∃ N, flowAllR true l b = (N, mo, true)) ∧ b.length ≤ 5 ∧ ∀ q : List Int, q.length + 1 = l.length → (flowAllR true l q).2.1 ≤ mo := by
  obtain ⟨h1, h2, h3⟩ := bestDR_facts h
  obtain ⟨_, h5, h0, _, h6, h7⟩ := h2
  have hl := len_ok h1
  simp only at h5 h6 h7 h0
  refine ⟨⟨(flowAllR true l b).1, ?_⟩, by omega, fun q hq => ?_⟩
  · rw [← h6]
    exact trip h7
  · cases ho : orderOk l.length q
    · rw [flowAll_no (by rw [runOk, ho, Bool.and_false])]
      exact h0
    · exact h3 q ho hq
theorem saving_share {l : List Pool} {o : List Int} {num den : Int} (h : savedR l o = ((num, den), true)) : ∃ N v p, flowAllR true l o = (N, v, true) ∧ l[0]? = some p ∧ num * p.Water = v * den ∧ (0 ≤ num ∧ num ≤ 100000) ∧ (0 ≤ p.Water ∧ p.Water ≤ 100000) ∧ 0 ≤ v * den ∧ v * den ≤ 10000000000 := by
  unfold savedR at h
  split at h
  · rename_i h1
    obtain ⟨h1, h2⟩ := h1
    have e : flowAllR true l o = ((flowAllR true l o).1, (flowAllR true l o).2.1, true) := trip h1
    have e3 := (Prod.mk.inj h).1
    obtain ⟨s, p, q, _, _, e1, _⟩ := saving_drain e
    have hv := saved_bd e
    rw [getP_at e1] at e3
    have hp := at_ok hv.1 e1
    simp only [validPool, Bool.and_eq_true, inB_iff] at hp
    have hf := red_fact hv.2.1 (show 0 ≤ p.Water by omega)
    have hb := red_bd hv.2.1 (show 0 ≤ p.Water by omega)
    rw [e3] at hf hb
    simp only at hf hb
    have hm := mul_bd (x := num) (y := p.Water) (X := 100000) (Y := 100000) hb.1.1 (by omega) (by omega) (by omega)
    exact ⟨_, _, p, e, e1, hf, by omega, by omega, by omega, by omega⟩
  · cases (Prod.mk.inj h).2
end Go.Proofs.Yteejalanjeeecaa
