/- The contracts of the helpers on PumpTask. -/
import Derived.Test.YtmnbbnboaokgjaaHPump
import Derived.Test.YtmnbbnboaokgjaaHInt
import Derived.Test.YtmnbbnboaokgjaaL1
import Derived.Test.YtmnbbnboaokgjaaC6
namespace Go.Proofs.Ytmnbbnboaokgjaa
open Go.RowKit
section
variable {w : World} {b : Nat} {v0 v1 v2 v3 v4 u : Value} {t : TypeId}
theorem five_cell (h : w.heap[b]? = some (.cells #[v0, v1, v2, v3, v4] t (0, 0))) : w.cell? ⟨b, 0, none⟩ = some v0 ∧ w.cell? ⟨b, 1, none⟩ = some v1 ∧ w.cell? ⟨b, 2, none⟩ = some v2 ∧ w.cell? ⟨b, 3, none⟩ = some v3 ∧ w.cell? ⟨b, 4, none⟩ = some v4 := by simp [World.cell?, h]
theorem five_free (h : w.heap[b]? = some (.cells #[v0, v1, v2, v3, v4] t (0, 0))) : w.frozen? ⟨b, 0, none⟩ = false ∧ w.frozen? ⟨b, 1, none⟩ = false ∧ w.frozen? ⟨b, 2, none⟩ = false ∧ w.frozen? ⟨b, 3, none⟩ = false ∧ w.frozen? ⟨b, 4, none⟩ = false := by simp [World.frozen?, h]
theorem five_set3 (h : w.heap[b]? = some (.cells #[v0, v1, v2, v3, v4] t (0, 0))) : (w.setCell ⟨b, 3, none⟩ u).heap[b]? = some (.cells #[v0, v1, v2, u, v4] t (0, 0)) := by
  have hlt := lt_of_block h
  have h' : w.heap[b] = .cells #[v0, v1, v2, v3, v4] t (0, 0) := by simpa [Array.getElem?_eq_getElem hlt] using h
  show (w.heap.modify b _)[b]? = _
  rw [Array.getElem?_eq_getElem (by simpa using hlt), Array.getElem_modify_self, h']
  rfl
theorem five_set4 (h : w.heap[b]? = some (.cells #[v0, v1, v2, v3, v4] t (0, 0))) : (w.setCell ⟨b, 4, none⟩ u).heap[b]? = some (.cells #[v0, v1, v2, v3, u] t (0, 0)) := by
  have hlt := lt_of_block h
  have h' : w.heap[b] = .cells #[v0, v1, v2, v3, v4] t (0, 0) := by simpa [Array.getElem?_eq_getElem hlt] using h
  show (w.heap.modify b _)[b]? = _
  rw [Array.getElem?_eq_getElem (by simpa using hlt), Array.getElem_modify_self, h']
  rfl
end
set_option maxHeartbeats 400000 in
theorem szIntS_any (A : Option Addr) (n c : Nat) (m : Int) (w : World) (hn : n ≤ 9223372036854775807) (h0 : 0 ≤ m) (h1 : m ≤ 1048576) :
    Calls Try.prog 63 #[.slice A n c, .int .i64 m] w fun e w' => e = .returned (.int .i64 (if m < n then -1 else m - n)) ∧ Bl w w' := by
  by_cases h : m < n
  · have h' : m - (n : Int) < 0 := by omega
    simp only [h, if_true]
    go_enter Try.func63, Try.ntmps63
    go_wp2
    go_ret
    exact ⟨rfl, Bl.refl _⟩
  · have h' : ¬ m - (n : Int) < 0 := by omega
    simp only [h, if_false]
    go_enter Try.func63, Try.ntmps63
    go_wp2
    go_ret
    exact ⟨rfl, Bl.refl _⟩
theorem own_other {w : World} {B E k n g j : Nat} {v u : Value} {xs : List Value} (ho : w.ownsRow B E k v n xs) (hg : g < B) : (w.setCell ⟨g, j, none⟩ u).ownsRow B E k v n xs :=
  World.ownsRow.kept ho (grown_set (World.grownBy.refl _ _) j u) (by
    cases e : v.ownBlock with
    | none => exact .inl rfl
    | some q => exact .inr (fun e2 => by have h1 := (World.ownsRow.lt ho q e).1; obtain rfl := Option.some.inj e2; omega))
set_option maxHeartbeats 1000000 in
theorem szPumpTask_any (lo hi lv : Int) (A : Option Addr) (n c : Nat) (B : Option Addr) (m d : Nat) (w : World) (hn : n ≤ 9223372036854775807) (hm : m ≤ 9223372036854775807) :
    Calls Try.prog 18 #[.agg #[.int .i64 lo, .int .i64 hi, .int .i64 lv, .slice A n c, .slice B m d], .int .i64 1048576] w fun e w' => (∃ r : Int, e = .returned (.int .i64 r) ∧ -1 ≤ r ∧ r ≤ 1048576 ∧ (r < 0 ∨ (n ≤ 1048576 ∧ m ≤ 1048576))) ∧ Bl w w' := by
  have H1 := Lib.hid (fun W => szIntS_any A n c 1048576 W hn (by omega) (by omega))
  have F00 : ∀ W, Bl (w.alloc (.cells #[.int .i64 lo, .int .i64 hi, .int .i64 lv, .slice A n c, .slice B m d] 36)) W → W.cell? ⟨w.heap.size, 0, none⟩ = some (.int .i64 lo) := Bl.all (by go_simp)
  have F01 : ∀ W, Bl (w.alloc (.cells #[.int .i64 lo, .int .i64 hi, .int .i64 lv, .slice A n c, .slice B m d] 36)) W → W.cell? ⟨w.heap.size, 1, none⟩ = some (.int .i64 hi) := Bl.all (by go_simp)
  have F02 : ∀ W, Bl (w.alloc (.cells #[.int .i64 lo, .int .i64 hi, .int .i64 lv, .slice A n c, .slice B m d] 36)) W → W.cell? ⟨w.heap.size, 2, none⟩ = some (.int .i64 lv) := Bl.all (by go_simp)
  have F03 : ∀ W, Bl (w.alloc (.cells #[.int .i64 lo, .int .i64 hi, .int .i64 lv, .slice A n c, .slice B m d] 36)) W → W.cell? ⟨w.heap.size, 3, none⟩ = some (.slice A n c) := Bl.all (by go_simp)
  have F04 : ∀ W, Bl (w.alloc (.cells #[.int .i64 lo, .int .i64 hi, .int .i64 lv, .slice A n c, .slice B m d] 36)) W → W.cell? ⟨w.heap.size, 4, none⟩ = some (.slice B m d) := Bl.all (by go_simp)
  have hb := Bl.refl (w.alloc (.cells #[.int .i64 lo, .int .i64 hi, .int .i64 lv, .slice A n c, .slice B m d] 36))
  have hb0 : Hid (Bl w (w.alloc (.cells #[.int .i64 lo, .int .i64 hi, .int .i64 lv, .slice A n c, .slice B m d] 36))) := (Bl.refl w).alloc _
  by_cases hs : (1048576 : Int) < n
  · rw [if_pos hs] at H1
    go_enter Try.func18, Try.ntmps18
    go_wp2_with fail
    refine (H1.out _).mono ?_
    rintro e w' ⟨rfl, hbn⟩
    go_wp2_with fail
    go_ret
    exact ⟨⟨_, rfl, by omega, by omega, .inl (by omega)⟩, hb0.out.trans hbn⟩
  rw [if_neg hs] at H1
  have H2 := Lib.hid (fun W => szPumpS_any B m d (1048576 - (n : Int)) W hm (by omega) (by omega))
  have hs' : ¬ 1048576 - (n : Int) < 0 := by omega
  by_cases ht : (1048576 - (n : Int)) < m
  · rw [if_pos ht] at H2
    go_enter Try.func18, Try.ntmps18
    go_wp2_with fail
    refine (H1.out _).mono ?_
    rintro e w' ⟨rfl, hbn⟩
    have f4 := F04 _ hbn
    have hb := hb0.out.trans hbn
    clear hbn
    go_wp2_with fail
    refine (H2.out _).mono ?_
    rintro e w' ⟨rfl, hbn⟩
    have hb := hb.trans hbn
    clear hbn
    go_wp2_with fail
    go_ret
    exact ⟨⟨_, rfl, by omega, by omega, .inl (by omega)⟩, hb⟩
  · rw [if_neg ht] at H2
    have ht' : ¬ 1048576 - (n : Int) - m < 0 := by omega
    go_enter Try.func18, Try.ntmps18
    go_wp2_with fail
    refine (H1.out _).mono ?_
    rintro e w' ⟨rfl, hbn⟩
    have f4 := F04 _ hbn
    have hb := hb0.out.trans hbn
    clear hbn
    go_wp2_with fail
    refine (H2.out _).mono ?_
    rintro e w' ⟨rfl, hbn⟩
    have hb := hb.trans hbn
    clear hbn
    go_wp2_with fail
    go_ret
    exact ⟨⟨_, rfl, by omega, by omega, .inr (by omega)⟩, hb⟩
set_option maxHeartbeats 2000000 in
theorem toPumpTask_any (lo hi lv : Int) (A : Option Addr) (n c : Nat) (fl : List Int) (B : Option Addr) (m d : Nat) (pl : List Pump) (w : World) (h : Sl ci 1 w A n fl) (g : Sl Pump.cs 3 w B m pl) (hn : n ≤ 1048576) (hm : m ≤ 1048576) :
    Calls Try.prog 20 #[.agg #[.int .i64 lo, .int .i64 hi, .int .i64 lv, .slice A n c, .slice B m d]] w fun e w' => ∃ (C : Option Addr) (f : Nat) (D : Option Addr) (k : Nat), e = .returned (.agg #[.int .i64 lo, .int .i64 hi, .int .i64 lv, .slice C n f, .slice D m k]) ∧ Sl ci 1 w' C n fl ∧ Sl Pump.cs 3 w' D m pl ∧ n ≤ f ∧ m ≤ k ∧ Bl w w' := by
  have HL := Lib.hid h.1
  have HM := Lib.hid g.1
  have H1 := Lib.hid (fun W hW => toIntS_any A n c fl W (h.bl hW) hn)
  have H2 := Lib.hid (fun W hW => toPumpS_any B m d pl W (g.bl hW) hm)
  have hb0 : Bl w (((w.alloc (.cells #[.int .i64 lo, .int .i64 hi, .int .i64 lv, .slice A n c, .slice B m d] 36)).alloc (.cells #[.int .i64 0, .int .i64 0, .int .i64 0, .slice none 0 0, .slice none 0 0] 41)).alloc (.cells #[.int .i64 lo, .int .i64 hi, .int .i64 lv, .slice none 0 0, .slice none 0 0] 41)) := (((Bl.refl w).alloc _).alloc _).alloc _
  go_enter Try.func20, Try.ntmps20
  go_wp2_with fail
  have EA := Lib.hid (block_of (((Bl.refl (w.alloc (.cells #[.int .i64 lo, .int .i64 hi, .int .i64 lv, .slice A n c, .slice B m d] 36))).alloc (.cells #[.int .i64 0, .int .i64 0, .int .i64 0, .slice none 0 0, .slice none 0 0] 41)).alloc (.cells #[.int .i64 lo, .int .i64 hi, .int .i64 lv, .slice none 0 0, .slice none 0 0] 41)) (heap_alloc_new w _))
  have ER := Lib.hid (block_of ((Bl.refl ((w.alloc (.cells #[.int .i64 lo, .int .i64 hi, .int .i64 lv, .slice A n c, .slice B m d] 36)).alloc (.cells #[.int .i64 0, .int .i64 0, .int .i64 0, .slice none 0 0, .slice none 0 0] 41))).alloc (.cells #[.int .i64 lo, .int .i64 hi, .int .i64 lv, .slice none 0 0, .slice none 0 0] 41)) (heap_alloc_new _ _))
  have EO := Lib.hid (heap_alloc_new ((w.alloc (.cells #[.int .i64 lo, .int .i64 hi, .int .i64 lv, .slice A n c, .slice B m d] 36)).alloc (.cells #[.int .i64 0, .int .i64 0, .int .i64 0, .slice none 0 0, .slice none 0 0] 41)) (.cells #[.int .i64 lo, .int .i64 hi, .int .i64 lv, .slice none 0 0, .slice none 0 0] 41))
  have z1 : (w.alloc (.cells #[.int .i64 lo, .int .i64 hi, .int .i64 lv, .slice A n c, .slice B m d] 36)).heap.size = w.heap.size + 1 := by simp
  have z2 : ((w.alloc (.cells #[.int .i64 lo, .int .i64 hi, .int .i64 lv, .slice A n c, .slice B m d] 36)).alloc (.cells #[.int .i64 0, .int .i64 0, .int .i64 0, .slice none 0 0, .slice none 0 0] 41)).heap.size = w.heap.size + 1 + 1 := by simp
  have z3 : (((w.alloc (.cells #[.int .i64 lo, .int .i64 hi, .int .i64 lv, .slice A n c, .slice B m d] 36)).alloc (.cells #[.int .i64 0, .int .i64 0, .int .i64 0, .slice none 0 0, .slice none 0 0] 41)).alloc (.cells #[.int .i64 lo, .int .i64 hi, .int .i64 lv, .slice none 0 0, .slice none 0 0] 41)).heap.size = w.heap.size + 3 := by simp
  rw [z1] at ER
  rw [z2] at EO
  refine (H1.out _ hb0).mono ?_
  rintro e w1 ⟨C, f, rfl, o1, hbn⟩
  rw [z3] at o1
  have hb := hb0.trans hbn
  have EA := Lib.hid (block_of hbn EA.out)
  have ER := Lib.hid (block_of hbn ER.out)
  have EO := Lib.hid (block_of hbn EO.out)
  have EO1 := EO
  obtain ⟨_, _, _, _, a4⟩ := five_cell EA.out
  obtain ⟨_, _, _, f3, _⟩ := five_free EO.out
  obtain ⟨_, _, _, c3, _⟩ := five_cell EO.out
  clear z1 z2 z3 hbn hb0
  have hb2 := hb.setCell (p := ⟨w.heap.size + 1 + 1, 3, none⟩) (by show w.heap.size ≤ w.heap.size + 1 + 1; omega) (.slice C n f)
  go_wp2_with fail
  refine (H2.out _ hb2).mono ?_
  rintro e w2 ⟨D, k, rfl, o2, hbn⟩
  have o1 := hbn.own (own_other o1 (show w.heap.size + 1 + 1 < w.heap.size + 3 by omega))
  have EA := Lib.hid (block_of hbn (other_set EA.out (show w.heap.size ≠ w.heap.size + 1 + 1 by omega)))
  have ER := Lib.hid (block_of hbn (other_set ER.out (show w.heap.size + 1 ≠ w.heap.size + 1 + 1 by omega)))
  have EO := Lib.hid (block_of hbn (five_set3 EO.out))
  have hz1 : w.heap.size + 3 ≤ (w1.setCell ⟨w.heap.size + 1 + 1, 3, none⟩ (.slice C n f)).heap.size := by
    have := lt_of_block (five_set3 (u := .slice C n f) EO1.out); omega
  have o2 := own_mono o2 hz1
  have hb := hb2.trans hbn
  obtain ⟨b0, b1, b2, b3, b4⟩ := five_cell EO.out
  obtain ⟨_, _, _, _, f4⟩ := five_free EO.out
  obtain ⟨r0, r1, r2, r3, r4⟩ := five_free ER.out
  obtain ⟨e0, e1, e2, e3, e4⟩ := five_cell ER.out
  clear hbn hb2 a4 f3 c3 hz1
  go_wp2_with fail
  refine bodyPost_ret (v := .agg #[.int .i64 lo, .int .i64 hi, .int .i64 lv, .slice C n f, .slice D m k]) (by simp [results, Try.results20, go_sem, e0, e1, e2, e3, e4]) rfl ?_
  refine ⟨C, f, D, k, rfl, Sl.of_own (B := w.heap.size + 3) (E := 3) (c := f) ci_len ?_ HL.out (by omega), Sl.of_own (B := w.heap.size + 3) (E := 87) (c := k) Pump.cs_len ?_ HM.out (by omega), own_cap o1, own_cap o2, ?_⟩
  · repeat (first | (with_reducible exact o1) | (with_reducible refine own_other ?_ (by omega)))
  · repeat (first | (with_reducible exact o2) | (with_reducible refine own_other ?_ (by omega)))
  · repeat (first | (with_reducible exact hb) | (with_reducible refine Bl.setCell ?_ (by simp only; omega) _))
set_option maxHeartbeats 1000000 in
theorem eqPumpTask_any (lo hi lv : Int) (A C : Option Addr) (n c f : Nat) (fl : List Int) (B D : Option Addr) (m d k : Nat) (pl : List Pump) (w : World) (s1 : Sl ci 1 w A n fl) (s2 : Sl Pump.cs 3 w B m pl) (t1 : Sl ci 1 w C n fl) (t2 : Sl Pump.cs 3 w D m pl) :
    Calls Try.prog 22 #[.agg #[.int .i64 lo, .int .i64 hi, .int .i64 lv, .slice A n c, .slice B m d], .agg #[.int .i64 lo, .int .i64 hi, .int .i64 lv, .slice C n f, .slice D m k]] w fun e w' => e = .returned (.bool true) ∧ Bl w w' := by
  have H1 := Lib.hid (fun W hW => eqIntS_any A C n n c f fl fl W (s1.bl hW) (t1.bl hW))
  have H2 := Lib.hid (fun W hW => eqPumpS_any B D m m d k pl pl W (s2.bl hW) (t2.bl hW))
  simp only [eqB_self] at H1 H2
  clear s1 s2 t1 t2
  have F00 : ∀ W, Bl ((w.alloc (.cells #[.int .i64 lo, .int .i64 hi, .int .i64 lv, .slice A n c, .slice B m d] 41)).alloc (.cells #[.int .i64 lo, .int .i64 hi, .int .i64 lv, .slice C n f, .slice D m k] 41)) W → W.cell? ⟨w.heap.size, 0, none⟩ = some (.int .i64 lo) := Bl.all (by go_simp)
  have F01 : ∀ W, Bl ((w.alloc (.cells #[.int .i64 lo, .int .i64 hi, .int .i64 lv, .slice A n c, .slice B m d] 41)).alloc (.cells #[.int .i64 lo, .int .i64 hi, .int .i64 lv, .slice C n f, .slice D m k] 41)) W → W.cell? ⟨w.heap.size, 1, none⟩ = some (.int .i64 hi) := Bl.all (by go_simp)
  have F02 : ∀ W, Bl ((w.alloc (.cells #[.int .i64 lo, .int .i64 hi, .int .i64 lv, .slice A n c, .slice B m d] 41)).alloc (.cells #[.int .i64 lo, .int .i64 hi, .int .i64 lv, .slice C n f, .slice D m k] 41)) W → W.cell? ⟨w.heap.size, 2, none⟩ = some (.int .i64 lv) := Bl.all (by go_simp)
  have F03 : ∀ W, Bl ((w.alloc (.cells #[.int .i64 lo, .int .i64 hi, .int .i64 lv, .slice A n c, .slice B m d] 41)).alloc (.cells #[.int .i64 lo, .int .i64 hi, .int .i64 lv, .slice C n f, .slice D m k] 41)) W → W.cell? ⟨w.heap.size, 3, none⟩ = some (.slice A n c) := Bl.all (by go_simp)
  have F04 : ∀ W, Bl ((w.alloc (.cells #[.int .i64 lo, .int .i64 hi, .int .i64 lv, .slice A n c, .slice B m d] 41)).alloc (.cells #[.int .i64 lo, .int .i64 hi, .int .i64 lv, .slice C n f, .slice D m k] 41)) W → W.cell? ⟨w.heap.size, 4, none⟩ = some (.slice B m d) := Bl.all (by go_simp)
  have F10 : ∀ W, Bl ((w.alloc (.cells #[.int .i64 lo, .int .i64 hi, .int .i64 lv, .slice A n c, .slice B m d] 41)).alloc (.cells #[.int .i64 lo, .int .i64 hi, .int .i64 lv, .slice C n f, .slice D m k] 41)) W → W.cell? ⟨w.heap.size + 1, 0, none⟩ = some (.int .i64 lo) := Bl.all (by go_simp)
  have F11 : ∀ W, Bl ((w.alloc (.cells #[.int .i64 lo, .int .i64 hi, .int .i64 lv, .slice A n c, .slice B m d] 41)).alloc (.cells #[.int .i64 lo, .int .i64 hi, .int .i64 lv, .slice C n f, .slice D m k] 41)) W → W.cell? ⟨w.heap.size + 1, 1, none⟩ = some (.int .i64 hi) := Bl.all (by go_simp)
  have F12 : ∀ W, Bl ((w.alloc (.cells #[.int .i64 lo, .int .i64 hi, .int .i64 lv, .slice A n c, .slice B m d] 41)).alloc (.cells #[.int .i64 lo, .int .i64 hi, .int .i64 lv, .slice C n f, .slice D m k] 41)) W → W.cell? ⟨w.heap.size + 1, 2, none⟩ = some (.int .i64 lv) := Bl.all (by go_simp)
  have F13 : ∀ W, Bl ((w.alloc (.cells #[.int .i64 lo, .int .i64 hi, .int .i64 lv, .slice A n c, .slice B m d] 41)).alloc (.cells #[.int .i64 lo, .int .i64 hi, .int .i64 lv, .slice C n f, .slice D m k] 41)) W → W.cell? ⟨w.heap.size + 1, 3, none⟩ = some (.slice C n f) := Bl.all (by go_simp)
  have F14 : ∀ W, Bl ((w.alloc (.cells #[.int .i64 lo, .int .i64 hi, .int .i64 lv, .slice A n c, .slice B m d] 41)).alloc (.cells #[.int .i64 lo, .int .i64 hi, .int .i64 lv, .slice C n f, .slice D m k] 41)) W → W.cell? ⟨w.heap.size + 1, 4, none⟩ = some (.slice D m k) := Bl.all (by go_simp)
  have hb := Bl.refl ((w.alloc (.cells #[.int .i64 lo, .int .i64 hi, .int .i64 lv, .slice A n c, .slice B m d] 41)).alloc (.cells #[.int .i64 lo, .int .i64 hi, .int .i64 lv, .slice C n f, .slice D m k] 41))
  have hb0 : Hid (Bl w ((w.alloc (.cells #[.int .i64 lo, .int .i64 hi, .int .i64 lv, .slice A n c, .slice B m d] 41)).alloc (.cells #[.int .i64 lo, .int .i64 hi, .int .i64 lv, .slice C n f, .slice D m k] 41))) := ((Bl.refl w).alloc _).alloc _
  go_enter Try.func22, Try.ntmps22
  go_wp2_with fail
  refine (H1.out _ hb0.out).mono ?_
  rintro e w1 ⟨rfl, hbn⟩
  have f4 := F04 _ hbn
  have g4 := F14 _ hbn
  have hb1 := hb0.out.trans hbn
  clear hbn
  go_wp2_with fail
  refine (H2.out _ hb1).mono ?_
  rintro e w2 ⟨rfl, hbn⟩
  go_wp2_with fail
  go_ret
  exact ⟨rfl, hb1.trans hbn⟩
end Go.Proofs.Ytmnbbnboaokgjaa
