/- The contracts of what is drawn of chapter 7: cargos. -/
import Derived.Test.YtkeaobjcfkmjmaaD3
import Derived.Test.YtkeaobjcfkmjmaaBaseZ
import Derived.Test.YtkeaobjcfkmjmaaC7c
import Derived.Test.YtkeaobjcfkmjmaaCmp
namespace Go.Proofs.Ytkeaobjcfkmjmaa
open Go.RowKit
theorem Cargo.one (p : Cargo) : ∀ u ∈ p.cs, u.oneCell' = true := by intro u hu; simp [Cargo.cs] at hu; rcases hu with rfl | rfl | rfl <;> rfl
theorem Cargo.put3 {l : List Cargo} {i : Nat} {p : Cargo} (h : l[i]? = some p) (a b c : Int) : (((l.flatMap Cargo.cs).set (i * 3) (.int .i64 a)).set (i * 3 + 1) (.int .i64 b)).set (i * 3 + 2) (.int .i64 c) = (l.set i ⟨a, b, c⟩).flatMap Cargo.cs := by
  have hi : i < l.length := (List.getElem?_eq_some_iff.1 h).1
  have e0 := flat_set Cargo.cs 3 Cargo.cs_len l i p ⟨a, p.Length, p.Cones⟩ h 0 (by omega) (.int .i64 a) rfl
  have e1 := flat_set Cargo.cs 3 Cargo.cs_len (l.set i ⟨a, p.Length, p.Cones⟩) i ⟨a, p.Length, p.Cones⟩ ⟨a, b, p.Cones⟩ (List.getElem?_set_self hi) 1 (by omega) (.int .i64 b) rfl
  have e2 := flat_set Cargo.cs 3 Cargo.cs_len ((l.set i ⟨a, p.Length, p.Cones⟩).set i ⟨a, b, p.Cones⟩) i ⟨a, b, p.Cones⟩ ⟨a, b, c⟩ (List.getElem?_set_self (by simpa using hi)) 2 (by omega) (.int .i64 c) rfl
  rw [Nat.add_zero] at e0
  rw [e0, e1, e2]
  simp
theorem car_snoc {w : World} {B E m : Nat} {v : Value} {l : List Cargo} {y : Cargo} (h : w.ownsRow B E 3 v m (l.flatMap Cargo.cs ++ Cargo.cs y)) : ∃ l' : List Cargo, l'.length = l.length + 1 ∧ w.ownsRow B E 3 v m (l'.flatMap Cargo.cs) :=
  ⟨l ++ [y], by simp, by rw [List.flatMap_append]; simpa using h⟩
def lenOfV : Value → Nat
  | .slice _ m _ => m
  | _ => 0
/-- Cargos that have been drawn. -/
def DrCar (z : World) (g : Nat) (A : Option Addr) (n c k : Nat) (w : World) (e : Ending) (w' : World) : Prop :=
  ∃ (B : Option Addr) (m d : Nat) (l : List Cargo), e = .returned (.slice B m d) ∧ Sl Cargo.cs 3 w' B m l ∧ m ≤ 7 ∧ m ≤ d ∧ (∀ b o s, B = some ⟨b, o, s⟩ → b ≠ g) ∧ Dr z g A n c k w w'
theorem DrCar.own {z w w' : World} {g n c k m d : Nat} {A B : Option Addr} {l : List Cargo} (hgw : g < w.heap.size) (ho : w'.ownsRow w.heap.size 50 3 (.slice B m d) m (l.flatMap Cargo.cs)) (hl : l.length = m) (hm : m ≤ 7) (hd : Dr z g A n c k w w') : DrCar z g A n c k w (.returned (.slice B m d)) w' :=
  ⟨B, m, d, l, rfl, Sl.of_own Cargo.cs_len ho hl (by omega), hm, own_cap ho, own_ne ho hgw, hd⟩
set_option maxRecDepth 100000 in
set_option maxHeartbeats 8000000 in
theorem cargos_any (z : World) (g : Nat) (A : Option Addr) (n c k : Nat) (code : List Int) (hs : Sl cb 1 z A n code) (hby : Bytes code) (hk : k ≤ 10000) (top : Nat) (htop : top ≤ 6) (w : World) (h : Cur z g A n c k w) :
    Calls Try.prog 68 #[.pointer (some ⟨g, 0, none⟩), .int .i64 top] w (DrCar z g A n c (k + 200) w) := by
  have HP := pick_all z g A n c code hs hby
  have HA := among_all z g A n c code hs hby
  have hgw := h.lt
  have HC := Lib.hid (h.bl ((Bl.refl w).alloc (.cells #[] 50)))
  have HD := Lib.hid ((Dr.refl h).bl ((Bl.refl w).alloc (.cells #[] 50)))
  have HOR := Lib.hid (made_at Cargo.cs 3 w 50 w.heap.size _ rfl (Nat.le_refl _))
  clear h hs hby
  go_enter Try.func68, Try.ntmps68
  go_wp2_with fail
  refine (HP.out k (by omega) ((top : Int) + 1) (by omega) (by omega) _ HC.out).mono ?_
  rintro e w1 ⟨x, rfl, ⟨x0, x1⟩, hd⟩
  have HOR := Lib.hid (hd.keep hgw HOR.out)
  have HD := Lib.hid (HD.out.trans hd)
  obtain ⟨j0, rfl⟩ := Int.eq_ofNat_of_zero_le x0
  have hj0 : j0 ≤ 6 := by omega
  clear hd HC x0 x1
  go_wp2_with fail
  go_loopw [5, 6, 7, 8] (fun u v _ _ wr => ∃ (j : Nat) (B : Option Addr) (m d : Nat) (l : List Cargo), j + m ≤ 6 ∧ v = .int .i64 j ∧ u = .slice B m d ∧ l.length = m ∧ wr.ownsRow w.heap.size 50 3 (.slice B m d) m (l.flatMap Cargo.cs) ∧ Dr z g A n c (k + 62 - 10 * j) w wr) (fun _ v _ _ _ => (intOf v).toNat)
  case atStart => exact ⟨j0, _, 0, 0, [], by omega, rfl, rfl, rfl, HOR.out, HD.out.up (by omega)⟩
  case round =>
    clear HOR HD hj0
    obtain ⟨j, B, m, d, l, hj, rfl, rfl, hl, hor, hd⟩ := hrel
    have HL := Lib.hid hl
    have HOR := Lib.hid hor
    have HD := Lib.hid hd
    clear hl hor hd
    by_cases hj0 : 0 < j
    · go_wp2_with fail
      refine (HP.out _ (by omega) 12 (by omega) (by omega) _ HD.out.cur).mono ?_
      rintro e w' ⟨y1, rfl, ⟨y10, y11⟩, hd⟩
      have HOR := Lib.hid (hd.keep hgw HOR.out)
      have HD := Lib.hid (HD.out.trans hd)
      clear hd
      go_wp2_with fail
      refine (HP.out _ (by omega) 5 (by omega) (by omega) _ HD.out.cur).mono ?_
      rintro e w' ⟨y2, rfl, ⟨y20, y21⟩, hd⟩
      have HOR := Lib.hid (hd.keep hgw HOR.out)
      have HD := Lib.hid (HD.out.trans hd)
      clear hd
      go_wp2_with fail
      refine (HA.out _ (by omega) _ 7 _ [0, 0, 0, 1, 1, 2, 3] (by decide) (by decide) _ (sl_lit _ 3 [0, 0, 0, 1, 1, 2, 3] (le_top (by decide))) (new_ne (Nat.lt_of_lt_of_le hgw HD.out.le)) (HD.out.cur.bl ((Bl.refl _).alloc _))).mono ?_
      rintro e w' ⟨y3, rfl, _, hd⟩
      have HOR := Lib.hid (hd.keep hgw (World.ownsRow.alloc HOR.out _))
      have HD := Lib.hid ((HD.out.bl ((Bl.refl _).alloc _)).trans hd)
      clear hd
      have hb9 := HD.out.le
      have hy1 : y1 ≤ 11 := by omega
      have hy2 : y2 ≤ 4 := by omega
      clear y11 y21
      go_wp2_with fail
      generalize hW : w'.alloc (.cells #[.int .i64 (1 + y1), .int .i64 (1 + y2), .int .i64 y3] 50) = W
      have hWb : Bl w' W := by rw [← hW]; exact (Bl.refl _).alloc _
      have ES : W.heap[w'.heap.size]? = some (.cells #[.int .i64 (1 + y1), .int .i64 (1 + y2), .int .i64 y3] 50 (0, 0)) := by rw [← hW]; exact heap_alloc_new _ _
      have HOR := Lib.hid (hWb.own HOR.out)
      have HD := Lib.hid (HD.out.bl hWb)
      have HSL := Lib.hid (Sl.of_own Cargo.cs_len HOR.out HL.out (by omega))
      have HS1 : Hid (∀ V, Bl W V → Sl Cargo.cs 3 V B m l) := fun V hV => HSL.out.bl hV
      obtain ⟨c0, c1, c2⟩ := three_cell ES
      have F0 : ∀ V, Bl W V → V.cell? ⟨w'.heap.size, 0, none⟩ = _ := Bl.all c0
      have F1 : ∀ V, Bl W V → V.cell? ⟨w'.heap.size, 1, none⟩ = _ := Bl.all c1
      have F2 : ∀ V, Bl W V → V.cell? ⟨w'.heap.size, 2, none⟩ = _ := Bl.all c2
      have hle9 : w.heap.size ≤ W.heap.size := HD.out.le
      clear hW hWb ES
      generalize w'.heap.size = H at *
      have XBA : Hid (Bl W ((W.alloc (.cells #[] 50)).drew)) := ((Bl.refl W).alloc _).drew
      have XBB : Hid (Bl W (((W.alloc (.cells #[] 50)).alloc (.cells #[.int .i64 (1 + y1), .int .i64 (1 + y2), .int .i64 y3] 50)).drew)) := (((Bl.refl W).alloc _).alloc _).drew
      have XBC : Hid (Bl W (((W.alloc (.cells #[.int .i64 (1 + y1), .int .i64 (1 + y2), .int .i64 y3] 50)).alloc (.cells #[] 50)).drew)) := (((Bl.refl W).alloc _).alloc _).drew
      have XZA := Lib.hid XBA.out.le
      have XZB := Lib.hid XBB.out.le
      have XZC := Lib.hid XBC.out.le
      have XOA : Hid (World.ownsRow ((W.alloc (.cells #[] 50)).drew) W.heap.size 50 3 (.slice (some ⟨W.heap.size, 0, none⟩) 0 0) 0 (([] : List Cargo).flatMap Cargo.cs)) := (made_at Cargo.cs 3 W 50 W.heap.size _ rfl (Nat.le_refl _)).drew
      have XOB : Hid (World.ownsRow (((W.alloc (.cells #[] 50)).alloc (.cells #[.int .i64 (1 + y1), .int .i64 (1 + y2), .int .i64 y3] 50)).drew) W.heap.size 50 3 (.slice (some ⟨W.heap.size, 0, none⟩) 0 0) 0 (([] : List Cargo).flatMap Cargo.cs)) := (World.ownsRow.alloc (made_at Cargo.cs 3 W 50 W.heap.size _ rfl (Nat.le_refl _)) _).drew
      have XOC : Hid (World.ownsRow (((W.alloc (.cells #[.int .i64 (1 + y1), .int .i64 (1 + y2), .int .i64 y3] 50)).alloc (.cells #[] 50)).drew) W.heap.size 50 3 (.slice (some ⟨W.heap.size + 1, 0, none⟩) 0 0) 0 (([] : List Cargo).flatMap Cargo.cs)) := (made_at Cargo.cs 3 (W.alloc (.cells #[.int .i64 (1 + y1), .int .i64 (1 + y2), .int .i64 y3] 50)) 50 W.heap.size _ (by simp) (by omega)).drew
      have XIB : Hid (Sl Cargo.cs 3 (((W.alloc (.cells #[] 50)).alloc (.cells #[.int .i64 (1 + y1), .int .i64 (1 + y2), .int .i64 y3] 50)).drew) (some ⟨W.heap.size + 1, 0, none⟩) 1 [(⟨1 + y1, 1 + y2, y3⟩ : Cargo)]) := (slOneG Cargo.cs 3 Cargo.cs_len (W.alloc (.cells #[] 50)) 50 (⟨1 + y1, 1 + y2, y3⟩ : Cargo) _ rfl (W.heap.size + 1) (by simp)).drew
      have XIC : Hid (Sl Cargo.cs 3 (((W.alloc (.cells #[.int .i64 (1 + y1), .int .i64 (1 + y2), .int .i64 y3] 50)).alloc (.cells #[] 50)).drew) (some ⟨W.heap.size, 0, none⟩) 1 [(⟨1 + y1, 1 + y2, y3⟩ : Cargo)]) := ((slOneG Cargo.cs 3 Cargo.cs_len W 50 (⟨1 + y1, 1 + y2, y3⟩ : Cargo) _ rfl W.heap.size rfl).bl ((Bl.refl _).alloc _)).drew
      have XNB : Hid (∀ b o s, (some ⟨W.heap.size + 1, 0, none⟩ : Option Addr) = some ⟨b, o, s⟩ → some b ≠ (Value.slice (some ⟨W.heap.size, 0, none⟩) 0 0).ownBlock) := fun b o s e => by
        injection e with e; injection e with e1; subst e1; intro e2; simp [Value.ownBlock] at e2
      have XNC : Hid (∀ b o s, (some ⟨W.heap.size, 0, none⟩ : Option Addr) = some ⟨b, o, s⟩ → some b ≠ (Value.slice (some ⟨W.heap.size + 1, 0, none⟩) 0 0).ownBlock) := fun b o s e => by
        injection e with e; injection e with e1; subst e1; intro e2; simp [Value.ownBlock] at e2
      obtain ⟨i0, hi0, hz0, hz1, hz2⟩ := info_parts infoCargo
      go_region_held3 (fun V => V.cell? ⟨H, 0, none⟩ = some (.int .i64 (1 + y1)) ∧ V.cell? ⟨H, 1, none⟩ = some (.int .i64 (1 + y2)) ∧ V.cell? ⟨H, 2, none⟩ = some (.int .i64 y3)) ((first | exact ⟨F0 _ (by repeat (first | with_reducible assumption | with_reducible exact Bl.refl _ | with_reducible apply Bl.drew | with_reducible apply Bl.alloc)), F1 _ (by repeat (first | with_reducible assumption | with_reducible exact Bl.refl _ | with_reducible apply Bl.drew | with_reducible apply Bl.alloc)), F2 _ (by repeat (first | with_reducible assumption | with_reducible exact Bl.refl _ | with_reducible apply Bl.drew | with_reducible apply Bl.alloc))⟩)) (first | ((refine step_append_at (f := Cargo.cs) (by rfl) _ _ _ (by rfl) W.heap.size 50 i0 _ 3 24 Try.underlying28 hi0 hz0 hz1 hz2 rfl (by omega) Cargo.cs_len Cargo.one _ 0 [] XOA.out _ (m) _ (l) (HS1.out _ XBA.out) (by rfl) (by rfl) (by unfold maxLen; omega) (by omega) XZA.out ?_); intro B1 d1 N1 w1 hN ho1 hg1 hl1; obtain rfl : (m) = N1 := (by omega); clear hN; have hb1 := Bl.row XBA.out (Nat.le_refl _) XOA.out hg1; have hs1 := hb1.le; clear hl1) | ((refine step_append_at (f := Cargo.cs) (by rfl) _ _ _ (by rfl) W.heap.size 50 i0 _ 3 24 Try.underlying28 hi0 hz0 hz1 hz2 rfl (by omega) Cargo.cs_len Cargo.one _ 0 [] XOB.out _ (m) _ (l) (HS1.out _ XBB.out) (by rfl) (by rfl) (by unfold maxLen; omega) (by omega) XZB.out ?_); intro B1 d1 N1 w1 hN ho1 hg1 hl1; obtain rfl : (m) = N1 := (by omega); clear hN; have hb1 := Bl.row XBB.out (Nat.le_refl _) XOB.out hg1; have hs1 := hb1.le; clear hl1; have hI1 := XIB.out.grown hg1 XNB.out) | ((refine step_append_at (f := Cargo.cs) (by rfl) _ _ _ (by rfl) W.heap.size 50 i0 _ 3 24 Try.underlying28 hi0 hz0 hz1 hz2 rfl (by omega) Cargo.cs_len Cargo.one _ 0 [] XOC.out _ (m) _ (l) (HS1.out _ XBC.out) (by rfl) (by rfl) (by unfold maxLen; omega) (by omega) XZC.out ?_); intro B1 d1 N1 w1 hN ho1 hg1 hl1; obtain rfl : (m) = N1 := (by omega); clear hN; have hb1 := Bl.row XBC.out (Nat.le_refl _) XOC.out hg1; have hs1 := hb1.le; clear hl1; have hI1 := XIC.out.grown hg1 XNC.out) | ((refine step_append_at (f := Cargo.cs) (by rfl) _ _ _ (by rfl) W.heap.size 50 i0 _ 3 24 Try.underlying28 hi0 hz0 hz1 hz2 rfl (by omega) Cargo.cs_len Cargo.one _ (m) ([] ++ (l)) (World.ownsRow.alloc ho1 _) _ 1 _ [(⟨1 + y1, 1 + y2, y3⟩ : Cargo)] (slOneG Cargo.cs 3 Cargo.cs_len w1 50 (⟨1 + y1, 1 + y2, y3⟩ : Cargo) _ rfl _ rfl) (by rfl) (by rfl) (by unfold maxLen; omega) (by omega) (by simp; omega) ?_); intro CX dX NX wX hN hoX hgX hl2; obtain rfl : (m) + 1 = NX := (by omega); clear hN; have hbx := Bl.row (hb1.alloc _) (Nat.le_refl _) (World.ownsRow.alloc ho1 _) hgX; clear hl2; have HOX := Lib.hid hoX; clear hoX) | ((refine step_append_at (f := Cargo.cs) (by rfl) _ _ _ (by rfl) W.heap.size 50 i0 _ 3 24 Try.underlying28 hi0 hz0 hz1 hz2 rfl (by omega) Cargo.cs_len Cargo.one _ (m) ([] ++ (l)) ho1 _ 1 _ [(⟨1 + y1, 1 + y2, y3⟩ : Cargo)] hI1 (by rfl) (by rfl) (by unfold maxLen; omega) (by omega) hs1 ?_); intro CX dX NX wX hN hoX hgX hl2; obtain rfl : (m) + 1 = NX := (by omega); clear hN; have hbx := Bl.row hb1 (Nat.le_refl _) ho1 hgX; clear hl2; have HOX := Lib.hid hoX; clear hoX))
      all_goals
        have HOX : Hid (wX.ownsRow w.heap.size 50 3 (.slice CX (m + 1) dX) (m + 1) ((l ++ [(⟨1 + y1, 1 + y2, y3⟩ : Cargo)]).flatMap Cargo.cs)) := own_mono HOX.out hle9
        have HLX : Hid ((l ++ [(⟨1 + y1, 1 + y2, y3⟩ : Cargo)]).length = m + 1) := by show _ = _; rw [List.length_append, HL.out]; rfl
        have HOR := Lib.hid (hbx.own HOR.out)
        have HD := Lib.hid (HD.out.bl hbx)
        generalize l ++ [(⟨1 + y1, 1 + y2, y3⟩ : Cargo)] = l6 at *
        have HSX := Lib.hid (Sl.of_own Cargo.cs_len HOX.out HLX.out (by omega))
        clear F0 F1 F2 c0 c1 c2 hbx HSL HS1 XBA XBB XBC XZA XZB XZC XOA XOB XOC XIB XIC XNB XNC
        go_wp2_with fail
        refine (l7Good_any CX (m + 1) dX l6 _ HSX.out).mono ?_
        rintro e w9 ⟨rfl, hbn⟩
        have HOX := Lib.hid (hbn.own HOX.out)
        have HOR := Lib.hid (hbn.own HOR.out)
        have HD := Lib.hid (HD.out.bl hbn)
        clear hbn HSX
        cases cargoOk l6
        · go_wp2_with fail
          first | exact ⟨⟨j - 1, B, m, d, l, by omega, by congr 1; omega, rfl, HL.out, HOR.out, HD.out.up (by omega)⟩, by simp [intOf]; omega⟩ | (refine ⟨?_, by simp [intOf]; omega⟩; (repeat apply Exists.intro); exact ⟨⟨j - 1, B, m, d, l, by omega, by congr 1; omega, rfl, HL.out, HOR.out, HD.out.up (by omega)⟩, rfl⟩)
        · go_wp2_with fail
          first | exact ⟨⟨j - 1, CX, m + 1, dX, l6, by omega, by congr 1; omega, rfl, HLX.out, HOX.out, HD.out.up (by omega)⟩, by simp [intOf]; omega⟩ | (refine ⟨?_, by simp [intOf]; omega⟩; (repeat apply Exists.intro); exact ⟨⟨j - 1, CX, m + 1, dX, l6, by omega, by congr 1; omega, rfl, HLX.out, HOX.out, HD.out.up (by omega)⟩, rfl⟩)
    · obtain rfl : j = 0 := by omega
      by_cases hm0 : m = 0
      · subst hm0
        go_wp2_with fail
        go_ret
        exact DrCar.own hgw HOR.out HL.out (by omega) (HD.out.up (by omega))
      have hmq : ((m : Int) == 0) = false := by simp; omega
      rcases own_forms HOR.out with ⟨_, h0, _, _⟩ | ⟨gb, rfl⟩
      · omega
      obtain ⟨hgb0, hgb1⟩ := (own_lt HOR.out).out gb rfl
      go_wp2_with fail
      refine (HP.out _ (by omega) ((m : Int)) (by omega) (by omega) _ HD.out.cur).mono ?_
      rintro e w' ⟨xi, rfl, ⟨xi0, xi1⟩, hd⟩
      have HOR := Lib.hid (hd.keep hgw HOR.out)
      have HD := Lib.hid (HD.out.trans hd)
      clear hd
      obtain ⟨i, rfl⟩ := Int.eq_ofNat_of_zero_le xi0
      have hi : i < m := by omega
      clear xi0 xi1
      have hS := Sl.of_own Cargo.cs_len HOR.out HL.out (by omega)
      obtain ⟨b1, o1, p, hA1, ei, ci1, ci2, ci3⟩ := hS.Cargo hi
      injection hA1 with hA1; injection hA1 with hA1 hA1'; subst hA1 hA1'
      simp only [Nat.zero_add] at ci1 ci2 ci3
      have hgb2 := ((own_lt HOR.out).out gb rfl).2
      have k1 := ci1 _ (Bl.refl _)
      have k2 := ci2 _ (Bl.refl _)
      have k3 := ci3 _ (Bl.refl _)
      have EI := Lib.hid ei
      clear hS ci1 ci2 ci3 ei
      obtain ⟨pa, pf, pw⟩ := p
      simp only at k1 k2 k3
      have hle9 := HD.out.le
      have ES : Hid ((w'.alloc (.cells #[.int .i64 pa, .int .i64 pf, .int .i64 pw] 50)).heap[w'.heap.size]? = some (.cells #[.int .i64 pa, .int .i64 pf, .int .i64 pw] 50 (0, 0))) := heap_alloc_new w' _
      have HOR := Lib.hid (World.ownsRow.alloc HOR.out (.cells #[.int .i64 pa, .int .i64 pf, .int .i64 pw] 50))
      have HD := Lib.hid (HD.out.bl ((Bl.refl w').alloc (.cells #[.int .i64 pa, .int .i64 pf, .int .i64 pw] 50)))
      clear hgb1
      go_wp2_with fail
      refine (HP.out _ (by omega) 40 (by omega) (by omega) _ HD.out.cur).mono ?_
      rintro e w5 ⟨t, rfl, _, hd⟩
      have HOR := Lib.hid (hd.keep hgw HOR.out)
      have ES := Lib.hid (hd.blk ES.out (by omega))
      have HD := Lib.hid (HD.out.trans hd)
      clear hd k1 k2 k3
      generalize hSS : w'.heap.size = S at *
      have ng : ¬ gb = S := by omega
      have ng' : ¬ S = gb := by omega
      have q0 : (t == 0) = true ∨ (t == 0) = false := by cases (t == 0) <;> simp
      have q1 : (t == 1) = true ∨ (t == 1) = false := by cases (t == 1) <;> simp
      have q2 : (t == 2) = true ∨ (t == 2) = false := by cases (t == 2) <;> simp
      have q3 : (t == 3) = true ∨ (t == 3) = false := by cases (t == 3) <;> simp
      rcases q0 with q0 | q0
      · clear q1 q2 q3
        obtain ⟨b2, o2, p0, hA2, e0, d1, d2, d3⟩ := (Sl.of_own Cargo.cs_len HOR.out HL.out (by omega)).Cargo (i := 0) (by omega)
        injection hA2 with hA2; injection hA2 with hA2 hA2'; subst hA2 hA2'
        have k1 := d1 _ (Bl.refl _)
        simp only [Nat.zero_add, Nat.zero_mul] at k1
        clear d1 d2 d3 e0
        have hm1 : 0 < m := by omega
        go_wp2_with fail
        refine (HA.out _ (by omega) _ 4 _ [0, 99, 100, p0.Id] (by decide) (by decide) _ (sl_lit _ 3 [0, 99, 100, p0.Id] (le_top (by simp))) (new_ne (Nat.lt_of_lt_of_le hgw HD.out.le)) (HD.out.cur.bl ((Bl.refl _).alloc _))).mono ?_
        rintro e w6 ⟨u, rfl, _, hd⟩
        have HOR := Lib.hid (hd.keep hgw (World.ownsRow.alloc HOR.out _))
        have ES := Lib.hid (hd.blk (((Bl.refl _).alloc _).one ES.out) (by omega))
        have HD := Lib.hid ((HD.out.bl ((Bl.refl _).alloc _)).trans hd)
        clear hd k1
        obtain ⟨c0, c1, c2⟩ := three_cell ES.out
        obtain ⟨f0, f1, f2⟩ := three_free ES.out
        have fz := World.ownsRow.frozenAt HOR.out
        obtain ⟨v0, q0⟩ := own_some HOR.out (j := i * 3) (by omega)
        obtain ⟨v1, q1⟩ := own_some HOR.out (j := i * 3 + 1) (by omega)
        obtain ⟨v2, q2⟩ := own_some HOR.out (j := i * 3 + 2) (by omega)
        go_wp2_with fail
        go_ret
        refine DrCar.own (l := l.set i ⟨u, pf, pw⟩) hgw ?_ ((List.length_set ..).trans HL.out) (by omega) (((((HD.out.put hgw (by simp; omega) _).put hgw (by simp; omega) _).put hgw (by simp; omega) _).put hgw (by simp; omega) _).up (by omega))
        rw [← Cargo.put3 EI.out]
        exact own_set (own_set (own_set (World.ownsRow.kept HOR.out (grown_set (World.grownBy.refl _ _) 0 _) (.inr (by simp [Value.ownBlock]; omega))) _ _) _ _) _ _
      rcases q1 with q1 | q1
      · clear q2 q3
        go_wp2_with fail
        refine (HA.out _ (by omega) _ 3 _ [0, 8, 9] (by decide) (by decide) _ (sl_lit _ 3 [0, 8, 9] (le_top (by decide))) (new_ne (Nat.lt_of_lt_of_le hgw HD.out.le)) (HD.out.cur.bl ((Bl.refl _).alloc _))).mono ?_
        rintro e w' ⟨u, rfl, _, hd⟩
        have HOR := Lib.hid (hd.keep hgw (World.ownsRow.alloc HOR.out _))
        have ES := Lib.hid (hd.blk (((Bl.refl _).alloc _).one ES.out) (by omega))
        have HD := Lib.hid ((HD.out.bl ((Bl.refl _).alloc _)).trans hd)
        clear hd
        obtain ⟨c0, c1, c2⟩ := three_cell ES.out
        obtain ⟨f0, f1, f2⟩ := three_free ES.out
        have fz := World.ownsRow.frozenAt HOR.out
        obtain ⟨v0, q0⟩ := own_some HOR.out (j := i * 3) (by omega)
        obtain ⟨v1, q1⟩ := own_some HOR.out (j := i * 3 + 1) (by omega)
        obtain ⟨v2, q2⟩ := own_some HOR.out (j := i * 3 + 2) (by omega)
        go_wp2_with fail
        go_ret
        refine DrCar.own (l := l.set i ⟨pa, u, pw⟩) hgw ?_ ((List.length_set ..).trans HL.out) (by omega) (((((HD.out.put hgw (by simp; omega) _).put hgw (by simp; omega) _).put hgw (by simp; omega) _).put hgw (by simp; omega) _).up (by omega))
        rw [← Cargo.put3 EI.out]
        exact own_set (own_set (own_set (World.ownsRow.kept HOR.out (grown_set (World.grownBy.refl _ _) 1 _) (.inr (by simp [Value.ownBlock]; omega))) _ _) _ _) _ _
      rcases q2 with q2 | q2
      · clear q3
        go_wp2_with fail
        refine (HA.out _ (by omega) _ 2 _ [-1, 4] (by decide) (by decide) _ (sl_lit _ 3 [-1, 4] (le_top (by decide))) (new_ne (Nat.lt_of_lt_of_le hgw HD.out.le)) (HD.out.cur.bl ((Bl.refl _).alloc _))).mono ?_
        rintro e w' ⟨u, rfl, _, hd⟩
        have HOR := Lib.hid (hd.keep hgw (World.ownsRow.alloc HOR.out _))
        have ES := Lib.hid (hd.blk (((Bl.refl _).alloc _).one ES.out) (by omega))
        have HD := Lib.hid ((HD.out.bl ((Bl.refl _).alloc _)).trans hd)
        clear hd
        obtain ⟨c0, c1, c2⟩ := three_cell ES.out
        obtain ⟨f0, f1, f2⟩ := three_free ES.out
        have fz := World.ownsRow.frozenAt HOR.out
        obtain ⟨v0, q0⟩ := own_some HOR.out (j := i * 3) (by omega)
        obtain ⟨v1, q1⟩ := own_some HOR.out (j := i * 3 + 1) (by omega)
        obtain ⟨v2, q2⟩ := own_some HOR.out (j := i * 3 + 2) (by omega)
        go_wp2_with fail
        go_ret
        refine DrCar.own (l := l.set i ⟨pa, pf, u⟩) hgw ?_ ((List.length_set ..).trans HL.out) (by omega) (((((HD.out.put hgw (by simp; omega) _).put hgw (by simp; omega) _).put hgw (by simp; omega) _).put hgw (by simp; omega) _).up (by omega))
        rw [← Cargo.put3 EI.out]
        exact own_set (own_set (own_set (World.ownsRow.kept HOR.out (grown_set (World.grownBy.refl _ _) 2 _) (.inr (by simp [Value.ownBlock]; omega))) _ _) _ _) _ _
      rcases q3 with q3 | q3
      · go_wp2_with fail
        go_loopw [5] (fun u wr => ∃ (B : Option Addr) (m' d : Nat) (l' : List Cargo), u = .slice B m' d ∧ l'.length = m' ∧ m ≤ m' ∧ m' ≤ 7 ∧ wr.ownsRow w.heap.size 50 3 (.slice B m' d) m' (l'.flatMap Cargo.cs) ∧ Dr z g A n c (k + 100 + 2 * m') w wr ∧ wr.heap[S]? = some (.cells #[.int .i64 pa, .int .i64 pf, .int .i64 pw] 50 (0, 0)) ∧ (∀ b o s, B = some ⟨b, o, s⟩ → b ≠ S)) (fun u _ => 7 - lenOfV u)
        case atStart => exact ⟨_, m, d, l, rfl, HL.out, Nat.le_refl _, by omega, HOR.out, HD.out.up (by omega), ES.out, fun b o s e => by injection e with e; injection e with e; omega⟩
        case round =>
          clear HL HOR HD ES EI
          obtain ⟨B, m', d', l', rfl, hl, hm1, hm7, hor, hd, es, hne⟩ := hrel
          have HL := Lib.hid hl
          have HOR := Lib.hid hor
          have HD := Lib.hid hd
          have ES := Lib.hid es
          have HNE := Lib.hid hne
          clear hl hor hd es hne
          go_wp2_with fail
          refine (HP.out _ (by omega) 2 (by omega) (by omega) _ HD.out.cur).mono ?_
          rintro e w' ⟨pp, rfl, ⟨pp0, pp1⟩, hd⟩
          have HOR := Lib.hid (hd.keep hgw HOR.out)
          have ES := Lib.hid (hd.blk ES.out (by omega))
          have HD := Lib.hid (HD.out.trans hd)
          clear hd
          by_cases h1 : (m' : Int) < 6 + pp
          · have hm6 : m' ≤ 6 := by omega
            have ho9 := HOR.out
            have hb9 := HD.out.le
            obtain ⟨i0, hi0, hz0, hz1, hz2⟩ := info_parts infoCargo
            go_wp2_with (at_builtin; refine wpList_append_one _ rfl _ _ _ rfl _ 50 i0 _ 3 24 Try.underlying28 hi0 hz0 hz1 hz2 rfl (by omega) Cargo.cs_len Cargo.one _ m' l' rfl ⟨_, _, _⟩ _ rfl (by first | rfl | simp) _ rfl ho9 hb9 (by unfold maxLen; omega) (by omega) ?_)
            clear hi0 hz0 hz1 hz2
            intro B6 d6 w6 ho6 hg6
            have ES6 : Hid (w6.heap[S]? = some (.cells #[.int .i64 pa, .int .i64 pf, .int .i64 pw] 50 (0, 0))) := by
              show _ = _
              rw [hg6.block S (lt_of_block ES.out) (fun e => by
                rcases own_forms ho9 with ⟨rfl, _⟩ | ⟨g9, rfl⟩
                · cases e
                · exact HNE.out _ _ _ rfl (by injection e with e; exact e.symm))]
              exact ES.out
            obtain ⟨l6, hl6, ho6'⟩ := car_snoc ho6
            have HOR6 := Lib.hid ho6'
            have HNE6 := Lib.hid (own_ne3 ho6' (by omega) ES6.out)
            have HD6 := Lib.hid (HD.out.app hgw ho9 hg6)
            have HL6 := Lib.hid (hl6.trans (congrArg (· + 1) HL.out))
            clear ho6 ho6' hg6 hl6 ho9 hb9
            go_wp2_with fail
            refine ⟨⟨B6, m' + 1, d6, l6, rfl, HL6.out, by omega, by omega, HOR6.out, HD6.out.up (by omega), ES6.out, HNE6.out⟩, by simp [lenOfV]; omega⟩
          · rcases own_forms HOR.out with ⟨_, h0, _, _⟩ | ⟨gc, rfl⟩
            · omega
            obtain ⟨hgc0, hgc1⟩ := (own_lt HOR.out).out gc rfl
            have ngc : ¬ gc = S := HNE.out _ _ _ rfl
            have ngc' : ¬ S = gc := fun e => ngc e.symm
            have hi1 : i < m' := by omega
            obtain ⟨pi, EI⟩ : ∃ pi, Hid (l'[i]? = some pi) := ⟨_, List.getElem?_eq_getElem (by have := HL.out; omega)⟩
            clear hgb0 hgb2 ng ng'
            obtain ⟨c0, c1, c2⟩ := three_cell ES.out
            obtain ⟨f0, f1, f2⟩ := three_free ES.out
            have fz := World.ownsRow.frozenAt HOR.out
            obtain ⟨v0, q0⟩ := own_some HOR.out (j := i * 3) (by omega)
            obtain ⟨v1, q1⟩ := own_some HOR.out (j := i * 3 + 1) (by omega)
            obtain ⟨v2, q2⟩ := own_some HOR.out (j := i * 3 + 2) (by omega)
            go_wp2_with fail
            go_ret
            refine DrCar.own (l := l'.set i ⟨pa, pf, pw⟩) hgw ?_ ((List.length_set ..).trans HL.out) (by omega) ((((HD.out.put hgw (by simp; omega) _).put hgw (by simp; omega) _).put hgw (by simp; omega) _).up (by omega))
            rw [← Cargo.put3 EI.out]
            exact own_set (own_set (own_set HOR.out _ _) _ _) _ _
      · skip
        obtain ⟨c0, c1, c2⟩ := three_cell ES.out
        obtain ⟨f0, f1, f2⟩ := three_free ES.out
        have fz := World.ownsRow.frozenAt HOR.out
        obtain ⟨v0, q0⟩ := own_some HOR.out (j := i * 3) (by omega)
        obtain ⟨v1, q1⟩ := own_some HOR.out (j := i * 3 + 1) (by omega)
        obtain ⟨v2, q2⟩ := own_some HOR.out (j := i * 3 + 2) (by omega)
        go_wp2_with fail
        go_ret
        refine DrCar.own (l := l.set i ⟨pa, pf, pw⟩) hgw ?_ ((List.length_set ..).trans HL.out) (by omega) ((((HD.out.put hgw (by simp; omega) _).put hgw (by simp; omega) _).put hgw (by simp; omega) _).up (by omega))
        rw [← Cargo.put3 EI.out]
        exact own_set (own_set (own_set HOR.out _ _) _ _) _ _
theorem cargos_all (z : World) (g : Nat) (A : Option Addr) (n c : Nat) (code : List Int) (hs : Sl cb 1 z A n code) (hby : Bytes code) : Hid (∀ k, k ≤ 10000 → ∀ top, top ≤ 6 → ∀ w, Cur z g A n c k w → Calls Try.prog 68 #[.pointer (some ⟨g, 0, none⟩), .int .i64 (top : Nat)] w (DrCar z g A n c (k + 200) w)) :=
  fun k hk top htop w h => cargos_any z g A n c k code hs hby hk top htop w h
end Go.Proofs.Ytkeaobjcfkmjmaa
