/- A PumpTask that came in. -/
import Derived.Test.YtmnbbnboaokgjaaSPump
namespace Go.Proofs.Ytmnbbnboaokgjaa
open Go.ChangeShapes Go.WideShapes Go.ChangeAt Go.RowKit Go.Deep Go.Joins
section
variable {H : Type} {enc : TypeId × Value → H} {P : Program} {w : World} {base : Nat} {spare : Nat → Bool} {held : Bool}
theorem open_five {t : TypeId} {f0 f1 f2 f3 f4 : Field} {v : Value} {d : DataW H} {p : List MemPlace} {r : Reach} {b0 : Nat} (hs : P.underlying t = some (.struct #[f0, f1, f2, f3, f4])) (hone : oneCellFields P #[f0, f1, f2, f3, f4] = true) (hC : P.cellsOf t = 5)
    (hv : Value.okWide P w r b0 t v) (h : DataW.Trod enc P w base spare held t v d p) :
    ∃ (v0 v1 v2 v3 v4 : Value) (y0 y1 y2 y3 y4 : DataW H × List MemPlace) (n : Nat), v = .agg #[v0, v1, v2, v3, v4] ∧
      DataW.trod enc P w base spare held n f0.type [v0] = some y0 ∧ DataW.trod enc P w base spare held n f1.type [v1] = some y1 ∧ DataW.trod enc P w base spare held n f2.type [v2] = some y2 ∧ DataW.trod enc P w base spare held n f3.type [v3] = some y3 ∧ DataW.trod enc P w base spare held n f4.type [v4] = some y4 := by
  obtain ⟨cs, rfl, hsz⟩ := okWide_struct hs hv
  rw [hC] at hsz
  obtain ⟨l⟩ := cs
  obtain ⟨fuel, hf⟩ := h
  obtain ⟨ys, n, _, _, _, hyl, hfs⟩ := DataW.trod_struct hs hf
  have hl5 : l.length = 5 := hsz
  have hy5 : ys.length = 5 := hyl
  match l, hl5, ys, hy5 with
  | [c0, c1, c2, c3, c4], _, [y0, y1, y2, y3, y4], _ =>
    obtain ⟨o0, k0⟩ := hone_of hone 0 f0 rfl
    obtain ⟨o1, k1⟩ := hone_of hone 1 f1 rfl
    obtain ⟨o2, k2⟩ := hone_of hone 2 f2 rfl
    obtain ⟨o3, k3⟩ := hone_of hone 3 f3 rfl
    obtain ⟨o4, k4⟩ := hone_of hone 4 f4 rfl
    have h0 := hfs 0 f0 rfl
    have h1 := hfs 1 f1 rfl
    have h2 := hfs 2 f2 rfl
    have h3 := hfs 3 f3 rfl
    have h4 := hfs 4 f4 rfl
    exact ⟨c0, c1, c2, c3, c4, y0, y1, y2, y3, y4, n, rfl, by simpa [Value.cells, o0, k0] using h0, by simpa [Value.cells, o1, k1] using h1, by simpa [Value.cells, o2, k2] using h2, by simpa [Value.cells, o3, k3] using h3, by simpa [Value.cells, o4, k4] using h4⟩
theorem slice_form {t e : TypeId} {n : Nat} {v : Value} {y : DataW H × List MemPlace} (ht : P.underlying t = some (.slice e)) (h : DataW.trod enc P w base spare held n t [v] = some y) : ∃ A m c, v = .slice A m c ∧ DataW.Trod enc P w base spare held t (.slice A m c) y.1 y.2 := by
  rcases DataW.trod_slice ht h with ⟨h0, _⟩ | ⟨a, len, cap, elems, rest, q, _, h0, _⟩
  all_goals
    simp at h0
    subst h0
    exact ⟨_, _, _, rfl, n, by simpa [Value.cells] using h⟩
theorem open_task {t ti tf tp te : TypeId} {f0 f1 f2 f3 f4 g0 g1 g2 : Field} {v : Value} {d : DataW H} {p : List MemPlace} {r : Reach} {b0 : Nat} (hs : P.underlying t = some (.struct #[f0, f1, f2, f3, f4])) (hone : oneCellFields P #[f0, f1, f2, f3, f4] = true) (hC : P.cellsOf t = 5)
    (hts : f0.type = ti ∧ f1.type = ti ∧ f2.type = ti ∧ f3.type = tf ∧ f4.type = tp) (hi : P.underlying ti = some (.int .i64)) (hc1 : P.cellsOf ti = 1) (htf : P.underlying tf = some (.slice ti)) (htp : P.underlying tp = some (.slice te))
    (hte : P.underlying te = some (.struct #[g0, g1, g2])) (htg : g0.type = ti ∧ g1.type = ti ∧ g2.type = ti) (hone3 : oneCellFields P #[g0, g1, g2] = true) (hC3 : P.cellsOf te = 3)
    (hv : Value.okWide P w r b0 t v) (h : DataW.Trod enc P w base spare held t v d p) :
    ∃ (lo hi lv : Int) (A : Option Addr) (n c : Nat) (fl : List Int) (B : Option Addr) (m k : Nat) (pl : List Pump), v = .agg #[.int .i64 lo, .int .i64 hi, .int .i64 lv, .slice A n c, .slice B m k] ∧ Sl ci 1 w A n fl ∧ Sl Pump.cs 3 w B m pl := by
  obtain ⟨v0, v1, v2, v3, v4, y0, y1, y2, y3, y4, q, rfl, t0, t1, t2, t3, t4⟩ := open_five hs hone hC hv h
  obtain ⟨e0, e1, e2, e3, e4⟩ := hts
  rw [e0] at t0
  rw [e1] at t1
  rw [e2] at t2
  rw [e3] at t3
  rw [e4] at t4
  obtain ⟨a0, h0, _, _⟩ := DataW.trod_int hi t0
  simp at h0
  subst h0
  obtain ⟨a1, h1, _, _⟩ := DataW.trod_int hi t1
  simp at h1
  subst h1
  obtain ⟨a2, h2, _, _⟩ := DataW.trod_int hi t2
  simp at h2
  subst h2
  obtain ⟨A, n, c, rfl, h3⟩ := slice_form htf t3
  obtain ⟨B, m, k, rfl, h4⟩ := slice_form htp t4
  obtain ⟨fl, s3⟩ := sl_of_ints htf hi hc1 h3
  obtain ⟨pl, s4⟩ := sl_of_Pump htp hte hi htg hone3 hC3 h4
  exact ⟨a0, a1, a2, A, n, c, fl, B, m, k, pl, rfl, s3, s4⟩
end
end Go.Proofs.Ytmnbbnboaokgjaa
