/- Plain laws: what the law on bounds asks of the bounds. No program in sight. -/
import Derived.Test.YtcmlphikdgfilaaQ9d
namespace Go.Proofs.Ytcmlphikdgfilaa
open Go.RowKit
section
variable {l : List Arrival} {high : Bool} {mi : Int} {o : List Int}
theorem asked_cases (l : List Arrival) (mi : Int) : (arrOk l = true ∧ inB mi 1 60 = true) ∨ ¬ (arrOk l = true ∧ inB mi 1 60 = true) := Classical.em _
/-- The bounds of what is asked for. -/
structure BndYes (l : List Arrival) (high : Bool) (mi : Int) (lo al qu bt : Int) (bo : List Int) : Prop where
  low : lowerR l high mi = (lo, true)
  alone : aloneR l high mi = (al, true)
  queue : queueR l mi = (qu, true)
  best : bestR l high mi = ((bo, bt), true)
  gap : gapR l high mi bo = (bt - lo, true)
  proven : provenR l high mi bo = (decide (bt - lo = 0), true)
  len : bo.length = l.length
  b1 : lo ≤ bt
  b2 : al ≤ lo
  b3 : qu ≤ lo
  eq : lo = al ∨ lo = qu
  r0 : -100000000 ≤ lo
  r1 : bt ≤ 100000000000
theorem bnd_yes (h : arrOk l = true ∧ inB mi 1 60 = true) : ∃ lo al qu bt bo, BndYes l high mi lo al qu bt bo := by
  obtain ⟨m0, m1⟩ := inB_iff.1 h.2
  obtain ⟨h1, h2, h3⟩ := best_facts (high := high) h.1 m0 m1
  have hl := lower_le (high := high) h1 m0 m1
  have hb := lower_bd (high := high) h.1 m0 m1
  have hd := delay_bd (high := high) h1 m0 m1
  have hg : gapR l high mi (contB l high mi l.length []).1 = ((contB l high mi l.length []).2 - lowerZ l high mi, true) := by rw [gapR, if_pos ⟨h1, h.2⟩, h2]
  exact ⟨lowerZ l high mi, aloneK l high mi l.length, queueZ l mi, (contB l high mi l.length []).2, (contB l high mi l.length []).1, {
    low := by rw [lowerR, if_pos h]
    alone := by rw [aloneR, if_pos h]
    queue := by rw [queueR, if_pos h]
    best := by rw [bestR, if_pos h]
    gap := hg
    proven := by rw [provenR, hg]; simp
    len := (ord_parts h1).2.1
    b1 := by rw [h2]; exact hl
    b2 := by unfold lowerZ; omega
    b3 := by unfold lowerZ; omega
    eq := by unfold lowerZ; omega
    r0 := by omega
    r1 := by omega }⟩
theorem bnd_no (h : ¬ (arrOk l = true ∧ inB mi 1 60 = true)) : lowerR l high mi = (0, false) ∧ aloneR l high mi = (0, false) ∧ queueR l mi = (0, false) ∧ bestR l high mi = (([], 0), false) := by
  refine ⟨?_, ?_, ?_, ?_⟩
  · rw [lowerR, if_neg h]
  · rw [aloneR, if_neg h]
  · rw [queueR, if_neg h]
  · rw [bestR, if_neg h]
theorem gap_pos (l : List Arrival) (high : Bool) (mi : Int) (o : List Int) : 0 ≤ (gapR l high mi o).1 := by
  unfold gapR
  split
  · rename_i h
    obtain ⟨m0, m1⟩ := inB_iff.1 h.2
    have := lower_le (high := high) h.1 m0 m1
    simp only; omega
  · exact Int.le_refl _
theorem proven_facts (h : (provenR l high mi o).1 = true) : ∃ z bo, delayR l high mi o = (z, true) ∧ bestR l high mi = ((bo, z), true) := by
  by_cases hg : implOrd l o = true ∧ inB mi 1 60 = true
  · obtain ⟨m0, m1⟩ := inB_iff.1 hg.2
    have hok := (ord_parts hg.1).1
    obtain ⟨h1, h2, h3⟩ := best_facts (high := high) hok m0 m1
    have h4 := h3 o hg.1
    have h5 := lower_le (high := high) h1 m0 m1
    have h6 : delayZ l high mi o - lowerZ l high mi = 0 := by
      rw [provenR, gapR, if_pos hg] at h
      simpa using h
    exact ⟨delayZ l high mi o, (contB l high mi l.length []).1, by rw [delayR, if_pos hg], by rw [bestR, if_pos ⟨hok, hg.2⟩, show delayZ l high mi o = (contB l high mi l.length []).2 by omega]⟩
  · rw [provenR, gapR, if_neg hg] at h
    simp at h
end
end Go.Proofs.Ytcmlphikdgfilaa
