/- Plain laws: what the law on local orders asks of them. No program in sight. -/
import Derived.Test.YtcmlphikdgfilaaQ9c
import Derived.Test.YtcmlphikdgfilaaQ8e
namespace Go.Proofs.Ytcmlphikdgfilaa
open Go.RowKit
section
variable {l : List Arrival} {high : Bool} {mi : Int} {o : List Int}
theorem loc_facts (m0 : 1 ≤ mi) (m1 : mi ≤ 60) : ∀ (f : Nat) (o : List Int), implOrd l o = true → potO l high mi o < f → implOrd l (locF l high mi f o) = true ∧ delayZ l high mi (locF l high mi f o) ≤ delayZ l high mi o ∧ (scanL l high mi (locF l high mi f o)).2 = 0 := by
  intro f
  induction f with
  | zero => intro o _ h; omega
  | succ f ih =>
    intro o ho hp
    by_cases hz : (scanL l high mi o).2 = 0
    · rw [locF, if_pos hz]
      exact ⟨ho, Int.le_refl _, hz⟩
    · rw [locF, if_neg hz]
      obtain ⟨g1, g2, _⟩ := scan_go ho m0 m1 hz
      obtain ⟨h1, h2, h3⟩ := ih _ g1 (by omega)
      refine ⟨h1, ?_, h3⟩
      have hb := delay_bd (high := high) ho m0 m1
      have hb2 := delay_bd (high := high) g1 m0 m1
      unfold potO at g2
      omega
theorem bestK_ge : ∀ K k, k < K → (gainR l high mi o k).2 = true → (gainR l high mi o k).1 ≤ (bestK l high mi o K).2 := by
  intro K
  induction K with
  | zero => intro k h; omega
  | succ K ih =>
    intro k hk hg
    by_cases h : (gainR l high mi o K).2 = true ∧ (bestK l high mi o K).2 < (gainR l high mi o K).1
    · rw [bestK_yes h.1 h.2]
      by_cases e : k = K
      · subst e; exact Int.le_refl _
      · have := ih k (by omega) hg
        simp only; omega
    · have e : bestK l high mi o (K + 1) = bestK l high mi o K := by rw [bestK, if_neg h]
      rw [e]
      by_cases e2 : k = K
      · subst e2
        have : ¬ (bestK l high mi o k).2 < (gainR l high mi o k).1 := fun h' => h ⟨hg, h'⟩
        omega
      · exact ih k (by omega) hg
/-- What is known of a local order. -/
structure LocYes (l : List Arrival) (high : Bool) (mi : Int) (lo fc bo : List Int) (dl df bt : Int) : Prop where
  loc : localR l high mi = ((lo, dl), true)
  first : firstR l = (fc, true)
  d1 : delayR l high mi fc = (df, true)
  d2 : delayR l high mi lo = (dl, true)
  best : bestR l high mi = ((bo, bt), true)
  b1 : dl ≤ df
  b2 : bt ≤ dl
  len : lo.length = l.length
  gain : ∀ k : Nat, k + 1 < l.length → (swapGainR l high mi lo (k : Int)).2 = true → (swapGainR l high mi lo (k : Int)).1 ≤ 0
theorem loc_yes (h : arrOk l = true ∧ inB mi 1 60 = true) : ∃ lo fc bo dl df bt, LocYes l high mi lo fc bo dl df bt := by
  obtain ⟨m0, m1⟩ := inB_iff.1 h.2
  have hfc := fc_ord h.1
  obtain ⟨h1, h2, h3⟩ := loc_facts (high := high) m0 m1 (potO l high mi (fcK l l.length) + 1) _ hfc (Nat.lt_succ_self _)
  obtain ⟨_, _, h6⟩ := best_facts (high := high) h.1 m0 m1
  have hln := (ord_parts h1).2.1
  refine ⟨locO l high mi (fcK l l.length), fcK l l.length, (contB l high mi l.length []).1, delayZ l high mi (locO l high mi (fcK l l.length)), delayZ l high mi (fcK l l.length), (contB l high mi l.length []).2, {
    loc := by rw [localR, if_pos h]
    first := by rw [firstR, if_pos h.1]
    d1 := by rw [delayR, if_pos ⟨hfc, h.2⟩]
    d2 := by
      have e : delayR l high mi (locO l high mi (fcK l l.length)) = (delayZ l high mi (locO l high mi (fcK l l.length)), true) := if_pos ⟨h1, h.2⟩
      exact e
    best := by rw [bestR, if_pos h]
    b1 := h2
    b2 := h6 _ h1
    len := hln
    gain := ?_ }⟩
  intro k hk hg
  have hask : swapAsked l mi (locO l high mi (fcK l l.length)) (k : Int) = true := by
    refine Classical.byContradiction fun hn => ?_
    rw [swapGainR, if_neg hn] at hg
    cases hg
  have e : swapGainR l high mi (locO l high mi (fcK l l.length)) (k : Int) = gainR l high mi (locO l high mi (fcK l l.length)) k := by rw [swapGainR, if_pos hask]; rfl
  rw [e] at hg ⊢
  have h9 := bestK_ge (l := l) (high := high) (mi := mi) (o := locO l high mi (fcK l l.length)) ((locO l high mi (fcK l l.length)).length - 1) k (by have : (locO l high mi (fcK l l.length)).length = l.length := hln; omega) hg
  have h10 : (bestK l high mi (locO l high mi (fcK l l.length)) ((locO l high mi (fcK l l.length)).length - 1)).2 = 0 := h3
  omega
theorem swap_swap {o : List Int} {k : Nat} (hk : k + 1 < o.length) : swapL (swapL o k) k = o := by
  have hx : o[k]? = some (o[k]'(by omega)) := List.getElem?_eq_getElem (by omega)
  have hy : o[k + 1]? = some (o[k + 1]'hk) := List.getElem?_eq_getElem hk
  generalize o[k]'(by omega) = x at hx
  generalize o[k + 1]'hk = y at hy
  have e1 : swapL o k = (o.set k y).set (k + 1) x := swapL_eq hx hy
  have h1 : ((o.set k y).set (k + 1) x)[k]? = some y := by
    rw [List.getElem?_set_ne (by omega), List.getElem?_set_self (by omega)]
  have h2 : ((o.set k y).set (k + 1) x)[k + 1]? = some x := by
    rw [List.getElem?_set_self (by simp; omega)]
  rw [e1, swapL_eq h1 h2]
  apply List.ext_getElem?
  intro i
  by_cases hi : i = k + 1
  · subst hi
    rw [List.getElem?_set_self (by simp; omega), hy]
  · rw [List.getElem?_set_ne (fun e => hi e.symm)]
    by_cases hi2 : i = k
    · subst hi2
      rw [List.getElem?_set_self (by simp; omega), hx]
    · rw [List.getElem?_set_ne (fun e => hi2 e.symm), List.getElem?_set_ne (fun e => hi e.symm), List.getElem?_set_ne (fun e => hi2 e.symm)]
/-- An exchange that is told, turned back. -/
theorem swap_back {x : Int} (h : (swapGainR l high mi o x).2 = true) : ∃ k : Nat, x = (k : Int) ∧ k + 1 < o.length ∧ o.length ≤ 6 ∧ swapGainR l high mi (swapL o k) (k : Int) = (-(swapGainR l high mi o x).1, true) ∧ -100000000000 ≤ (swapGainR l high mi o x).1 ∧ (swapGainR l high mi o x).1 ≤ 100000000000 := by
  have hask : swapAsked l mi o x = true := by
    refine Classical.byContradiction fun hn => ?_
    rw [swapGainR, if_neg hn] at h
    cases h
  have hask2 := hask
  simp only [swapAsked, Bool.and_eq_true] at hask
  obtain ⟨⟨ho, hmi⟩, hx⟩ := hask
  obtain ⟨x0, x1⟩ := inB_iff.1 hx
  obtain ⟨k, rfl⟩ := Int.eq_ofNat_of_zero_le x0
  have hk : k + 1 < o.length := by omega
  have e : swapGainR l high mi o (k : Int) = gainR l high mi o k := by rw [swapGainR, if_pos hask2]; rfl
  rw [e] at h ⊢
  obtain ⟨g1, g2⟩ := gain_ord h
  have hask3 : swapAsked l mi (swapL o k) (k : Int) = true := by
    simp only [swapAsked, Bool.and_eq_true, swapL_len]
    exact ⟨⟨g1, hmi⟩, hx⟩
  have e2 : swapGainR l high mi (swapL o k) (k : Int) = gainR l high mi (swapL o k) k := by rw [swapGainR, if_pos hask3]; rfl
  obtain ⟨m0, m1⟩ := inB_iff.1 hmi
  have b1 := delay_bd (high := high) ho m0 m1
  have b2 := delay_bd (high := high) g1 m0 m1
  have hl := ord_parts ho
  have hl6 := arr_len hl.1
  refine ⟨k, rfl, hk, by omega, ?_, by omega, by omega⟩
  rw [e2, gainR, swap_swap hk, if_pos ho, g2]
  congr 1
  omega
end
end Go.Proofs.Ytcmlphikdgfilaa
