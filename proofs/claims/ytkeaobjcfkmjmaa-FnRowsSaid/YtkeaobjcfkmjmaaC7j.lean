/- The contracts of the shortest row in the program: a closure that visits all sequences. -/
import Derived.Test.YtkeaobjcfkmjmaaC7g
import Derived.Test.YtkeaobjcfkmjmaaC7h
import Derived.Test.YtkeaobjcfkmjmaaC7i
import Derived.Laws.EntriesVeiled
namespace Go.Proofs.Ytkeaobjcfkmjmaa
open Go.RowKit
/-- What the visit captures, leaves alone and doesn't share: itself. -/
def CapC (q s r : Nat) (w : World) : Prop := w.heap[r + 3]? = some (.cells #[.func (.func 76) #[] #[.pointer (some ⟨s, 0, none⟩), .pointer (some ⟨r + 3, 0, none⟩), .pointer (some ⟨q, 0, none⟩), .pointer (some ⟨r + 2, 0, none⟩), .pointer (some ⟨r + 1, 0, none⟩)]] 86 (0, 0))
/-- What it captures and writes: the best row, its extent. -/
def StC (r : Nat) (t : List Cargo × Int) (w : World) : Prop := ∃ C m d, w.heap[r + 1]? = some (.cells #[.slice C m d] 28 (0, 0)) ∧ w.heap[r + 2]? = some (.cells #[.int .i64 t.2] 3 (0, 0)) ∧ RowY Cargo.cs 3 (r + 1) (r + 2) r 50 w (.slice C m d) m t.1
def VisResC (r : Nat) (t : List Cargo × Int) (w : World) (e : Ending) (w' : World) : Prop := e = .returned (.tuple #[]) ∧ By (r + 1) (r + 2) w w' ∧ StC r t w'
section
variable {q s r : Nat} {w w' : World} {t : List Cargo × Int}
theorem CapC.bl (h : CapC q s r w) (hb : Bl w w') : CapC q s r w' := hb.one h
theorem CapC.by_ (h : CapC q s r w) (hb : By (r + 1) (r + 2) w w') : CapC q s r w' := hb.one h (by omega)
theorem StC.bl (h : StC r t w) (hb : Bl w w') : StC r t w' := by
  obtain ⟨C, m, d, h1, h2, h3⟩ := h
  exact ⟨C, m, d, hb.one h1, hb.one h2, h3.bl hb⟩
theorem stc_put {o : List Cargo} {z : Int} {B : Option Addr} {m d : Nat} {x y : Value} (hB : w.heap[r + 1]? = some (.cells #[x] 28 (0, 0))) (hZ : w.heap[r + 2]? = some (.cells #[y] 3 (0, 0))) (hr : RowY Cargo.cs 3 (r + 1) (r + 2) r 50 w (.slice B m d) m o) :
    StC r (o, z) ((w.setCell ⟨r + 1, 0, none⟩ (.slice B m d)).setCell ⟨r + 2, 0, none⟩ (.int .i64 z)) := by
  refine ⟨B, m, d, ?_, one_setCell (v := y) ?_, hr.by_ (((By.refl _).put (by omega) (by omega) _).put (by omega) (by omega) _)⟩
  · rw [Below.heap_setCell _ _ _ _ (by simp)]; exact one_setCell hB
  · rw [Below.heap_setCell _ _ _ _ (by simp)]; exact hZ
end
def visKC (S row : List Cargo) (G : Cargo → List Cargo × Int → List Cargo × Int) (t : List Cargo × Int) (k : Nat) : List Cargo × Int := (S.take k).foldl (fun t x => if x ∈ row then t else G x t) t
section
variable {S row : List Cargo} {G : Cargo → List Cargo × Int → List Cargo × Int} {t : List Cargo × Int} {k : Nat} {x : Cargo}
theorem visKC_has (hx : S[k]? = some x) (h : hasC row x = true) : visKC S row G t (k + 1) = visKC S row G t k := by
  rw [visKC, take_one hx, List.foldl_append]
  simp [hasC_iff.1 h, visKC]
theorem visKC_new (hx : S[k]? = some x) (h : hasC row x = false) : visKC S row G t (k + 1) = G x (visKC S row G t k) := by
  rw [visKC, take_one hx, List.foldl_append]
  simp [hasC_no.1 h, visKC]
end
def lastC (n m : Nat) (row : List Cargo) (t : List Cargo × Int) : List Cargo × Int := if m < n then t else mrg t (row, extOf row)
set_option maxRecDepth 100000 in
set_option maxHeartbeats 8000000 in
theorem visBodyC (A : Option Addr) (n c : Nat) (SA : Option Addr) (sc : Nat) (S : List Cargo) (q s r : Nat) (hqr : q < r) (hsr : s < r) (hn6 : n ≤ 6) (a : World) (hq : a.heap[q]? = some (.cells #[.slice A n c] 28 (0, 0))) (hs : a.heap[s]? = some (.cells #[.slice SA n sc] 28 (0, 0))) (ha : Sl Cargo.cs 3 a SA n S) (har : a.heap.size ≤ r)
    (m : Nat) (row : List Cargo) (hlo : row.length = m) (hm : m ≤ n) (hrow : cargoOk row = true) (G : Cargo → List Cargo × Int → List Cargo × Int)
    (HG : ∀ x, x ∈ S → hasC row x = false → ∀ B d t W, Bl a W → CapC q s r W → StC r t W → RowY Cargo.cs 3 (r + 1) (r + 2) r 50 W (.slice B (m + 1) d) (m + 1) (row ++ [x]) →
      Calls Try.prog 76 #[.slice B (m + 1) d, .pointer (some ⟨s, 0, none⟩), .pointer (some ⟨r + 3, 0, none⟩), .pointer (some ⟨q, 0, none⟩), .pointer (some ⟨r + 2, 0, none⟩), .pointer (some ⟨r + 1, 0, none⟩)] W (VisResC r (G x t) W))
    (B : Option Addr) (d : Nat) (t : List Cargo × Int) (w : World) (hb : Bl a w) (hc : CapC q s r w) (hst : StC r t w) (ho : RowY Cargo.cs 3 (r + 1) (r + 2) r 50 w (.slice B m d) m row) :
    Calls Try.prog 76 #[.slice B m d, .pointer (some ⟨s, 0, none⟩), .pointer (some ⟨r + 3, 0, none⟩), .pointer (some ⟨q, 0, none⟩), .pointer (some ⟨r + 2, 0, none⟩), .pointer (some ⟨r + 1, 0, none⟩)] w (VisResC r (lastC n m row (visKC S row G t n)) w) := by
  have HLO := Lib.hid hlo
  have HROW := Lib.hid hrow
  have HGG := Lib.hid HG
  have HA := Lib.hid hb
  have HC := Lib.hid hc
  have HO := Lib.hid ho
  have hs0 := Lib.hid hst
  have HSQ : Hid (∀ W, Bl a W → W.cell? ⟨q, 0, none⟩ = some (.slice A n c)) := Bl.all (cell_of_one hq)
  have c0 : w.cell? ⟨s, 0, none⟩ = some (.slice SA n sc) := hb.cell (cell_of_one hs)
  have hsz := lt_of_block hc
  have hcap := own_cap ho.1
  clear hlo HG hb hc ho hst hq hs hrow
  go_enter Try.func76, Try.ntmps76
  go_wp2_with fail
  go_loopw [13] (fun i wr => ∃ k : Nat, k ≤ n ∧ i = .int .i64 k ∧ By (r + 1) (r + 2) w wr ∧ StC r (visKC S row G t k) wr) (fun i _ => n - (intOf i).toNat)
  case atStart => exact ⟨0, Nat.zero_le _, rfl, By.refl _, hs0.out⟩
  case round =>
    clear c0
    obtain ⟨k, hk, rfl, hx, hst⟩ := hrel
    have HST := Lib.hid hst
    clear hst
    have hba := By.below HA.out hx (by omega)
    have HOW := Lib.hid (HO.out.by_ hx)
    have HCW := Lib.hid (HC.out.by_ hx)
    have hSo := HOW.out.sl Cargo.cs_len (by decide) (by omega)
    have hszr := hx.le
    by_cases hlt : k < n
    · obtain ⟨b1, o1, x, rfl, ex, p1, p2, p3⟩ := ha.Cargo hlt
      have g1 := p1 _ hba
      have g2 := p2 _ hba
      have g3 := p3 _ hba
      have hxm := List.mem_of_getElem? ex
      have EX := Lib.hid ex
      obtain ⟨xa, xb, xc⟩ := x
      simp only at g1 g2 g3
      clear p1 p2 p3 ex
      have H1 : Hid (∀ W, Bl wr W → Calls Try.prog 77 #[.slice B m d, .agg #[.int .i64 xa, .int .i64 xb, .int .i64 xc]] W fun e w' => e = .returned (.bool (hasC row ⟨xa, xb, xc⟩)) ∧ Bl W w') := fun W hW => containsC_any B m d row ⟨xa, xb, xc⟩ W (hSo.bl hW)
      have hbx : Bl wr (wr.alloc (.cells #[.int .i64 xa, .int .i64 xb, .int .i64 xc] 50)) := (Bl.refl wr).alloc _
      have ES : Hid ((wr.alloc (.cells #[.int .i64 xa, .int .i64 xb, .int .i64 xc] 50)).heap[wr.heap.size]? = some (.cells #[.int .i64 xa, .int .i64 xb, .int .i64 xc] 50 (0, 0))) := heap_alloc_new wr _
      cases hh : hasC row ⟨xa, xb, xc⟩
      case true =>
        have HN := Lib.hid (visKC_has (G := G) (t := t) EX.out hh)
        rw [hh] at H1
        go_wp2_with fail
        refine (H1.out _ hbx).mono ?_
        rintro e w2 ⟨rfl, hbn⟩
        have hbn := hbx.trans hbn
        have HST2 := Lib.hid (HST.out.bl hbn)
        clear hbx
        go_wp2_with fail
        first | exact ⟨⟨k + 1, by omega, by go_num, hx.bl hbn, by rw [HN.out]; exact HST2.out⟩, by simp [intOf]; omega⟩ | (refine ⟨?_, by simp [intOf]; omega⟩; (repeat apply Exists.intro); exact ⟨⟨k + 1, by omega, by go_num, hx.bl hbn, by rw [HN.out]; exact HST2.out⟩, rfl⟩)
      have HN := Lib.hid (visKC_new (G := G) (t := t) EX.out hh)
      have HGK := Lib.hid (HGG.out _ hxm hh)
      rw [hh] at H1
      generalize visKC S row G t k = T at *
      go_wp2_with fail
      refine (H1.out _ hbx).mono ?_
      rintro e w2 ⟨rfl, hbn⟩
      have ES2 := Lib.hid (hbn.one ES.out)
      have hbn := hbx.trans hbn
      have HST2 := Lib.hid (HST.out.bl hbn)
      have HC2 := Lib.hid (HCW.out.bl hbn)
      have HA2 := Lib.hid (hba.trans hbn)
      have hx2 := hx.bl hbn
      have hs2 := hbn.le
      have hSo2 := hSo.bl hbn
      have HH : Hid (r + 3 < wr.heap.size) := lt_of_block HCW.out
      have hHH := HH.out
      generalize wr.heap.size = H at *
      clear H1 HST hx hba HCW hSo HOW g1 g2 g3 ES hbx hbn hxm EX
      have HS1 : Hid (∀ V, Bl w2 V → Sl Cargo.cs 3 V B m row) := fun V hV => hSo2.bl hV
      have FV : ∀ W, Bl w2 W → W.cell? ⟨r + 3, 0, none⟩ = _ := Bl.all (cell_of_one HC2.out)
      obtain ⟨x0, x1, x2⟩ := three_cell ES2.out
      have F0 : ∀ V, Bl w2 V → V.cell? ⟨H, 0, none⟩ = _ := Bl.all x0
      have F1 : ∀ V, Bl w2 V → V.cell? ⟨H, 1, none⟩ = _ := Bl.all x1
      have F2 : ∀ V, Bl w2 V → V.cell? ⟨H, 2, none⟩ = _ := Bl.all x2
      have c1 := FV w2 (Bl.refl _)
      have hr2 : r + 3 < w2.heap.size := lt_of_block HC2.out
      go_wp2_with fail
      have XBA : Hid (Bl w2 ((w2.alloc (.cells #[] 50)).drew)) := ((Bl.refl w2).alloc _).drew
      have XBB : Hid (Bl w2 (((w2.alloc (.cells #[] 50)).alloc (.cells #[.int .i64 xa, .int .i64 xb, .int .i64 xc] 50)).drew)) := (((Bl.refl w2).alloc _).alloc _).drew
      have XBC : Hid (Bl w2 (((w2.alloc (.cells #[.int .i64 xa, .int .i64 xb, .int .i64 xc] 50)).alloc (.cells #[] 50)).drew)) := (((Bl.refl w2).alloc _).alloc _).drew
      have XZA := Lib.hid XBA.out.le
      have XZB := Lib.hid XBB.out.le
      have XZC := Lib.hid XBC.out.le
      have XOA : Hid (World.ownsRow ((w2.alloc (.cells #[] 50)).drew) w2.heap.size 50 3 (.slice (some ⟨w2.heap.size, 0, none⟩) 0 0) 0 (([] : List Cargo).flatMap Cargo.cs)) := (made_at Cargo.cs 3 w2 50 w2.heap.size _ rfl (Nat.le_refl _)).drew
      have XOB : Hid (World.ownsRow (((w2.alloc (.cells #[] 50)).alloc (.cells #[.int .i64 xa, .int .i64 xb, .int .i64 xc] 50)).drew) w2.heap.size 50 3 (.slice (some ⟨w2.heap.size, 0, none⟩) 0 0) 0 (([] : List Cargo).flatMap Cargo.cs)) := (World.ownsRow.alloc (made_at Cargo.cs 3 w2 50 w2.heap.size _ rfl (Nat.le_refl _)) _).drew
      have XOC : Hid (World.ownsRow (((w2.alloc (.cells #[.int .i64 xa, .int .i64 xb, .int .i64 xc] 50)).alloc (.cells #[] 50)).drew) w2.heap.size 50 3 (.slice (some ⟨w2.heap.size + 1, 0, none⟩) 0 0) 0 (([] : List Cargo).flatMap Cargo.cs)) := (made_at Cargo.cs 3 (w2.alloc (.cells #[.int .i64 xa, .int .i64 xb, .int .i64 xc] 50)) 50 w2.heap.size _ (by simp) (by omega)).drew
      have XIB : Hid (Sl Cargo.cs 3 (((w2.alloc (.cells #[] 50)).alloc (.cells #[.int .i64 xa, .int .i64 xb, .int .i64 xc] 50)).drew) (some ⟨w2.heap.size + 1, 0, none⟩) 1 [(⟨xa, xb, xc⟩ : Cargo)]) := (slOneG Cargo.cs 3 Cargo.cs_len (w2.alloc (.cells #[] 50)) 50 (⟨xa, xb, xc⟩ : Cargo) _ rfl (w2.heap.size + 1) (by simp)).drew
      have XIC : Hid (Sl Cargo.cs 3 (((w2.alloc (.cells #[.int .i64 xa, .int .i64 xb, .int .i64 xc] 50)).alloc (.cells #[] 50)).drew) (some ⟨w2.heap.size, 0, none⟩) 1 [(⟨xa, xb, xc⟩ : Cargo)]) := ((slOneG Cargo.cs 3 Cargo.cs_len w2 50 (⟨xa, xb, xc⟩ : Cargo) _ rfl w2.heap.size rfl).bl ((Bl.refl _).alloc _)).drew
      have XNB : Hid (∀ b o s, (some ⟨w2.heap.size + 1, 0, none⟩ : Option Addr) = some ⟨b, o, s⟩ → some b ≠ (Value.slice (some ⟨w2.heap.size, 0, none⟩) 0 0).ownBlock) := fun b o s e => by
        injection e with e; injection e with e1; subst e1; intro e2; simp [Value.ownBlock] at e2
      have XNC : Hid (∀ b o s, (some ⟨w2.heap.size, 0, none⟩ : Option Addr) = some ⟨b, o, s⟩ → some b ≠ (Value.slice (some ⟨w2.heap.size + 1, 0, none⟩) 0 0).ownBlock) := fun b o s e => by
        injection e with e; injection e with e1; subst e1; intro e2; simp [Value.ownBlock] at e2
      obtain ⟨i0, hi0, hz0, hz1, hz2⟩ := info_parts infoCargo
      go_region_held3 (fun W => W.cell? ⟨r + 3, 0, none⟩ = some (.func (.func 76) #[] #[.pointer (some ⟨s, 0, none⟩), .pointer (some ⟨r + 3, 0, none⟩), .pointer (some ⟨q, 0, none⟩), .pointer (some ⟨r + 2, 0, none⟩), .pointer (some ⟨r + 1, 0, none⟩)]) ∧ W.cell? ⟨H, 0, none⟩ = some (.int .i64 xa) ∧ W.cell? ⟨H, 1, none⟩ = some (.int .i64 xb) ∧ W.cell? ⟨H, 2, none⟩ = some (.int .i64 xc)) ((first | (with_reducible assumption) | (with_reducible refine ⟨?_, ?_, ?_, ?_⟩ <;> with_reducible assumption) | exact ⟨FV _ (by repeat (first | with_reducible assumption | with_reducible exact Bl.refl _ | with_reducible apply Bl.drew | with_reducible apply Bl.alloc)), F0 _ (by repeat (first | with_reducible assumption | with_reducible exact Bl.refl _ | with_reducible apply Bl.drew | with_reducible apply Bl.alloc)), F1 _ (by repeat (first | with_reducible assumption | with_reducible exact Bl.refl _ | with_reducible apply Bl.drew | with_reducible apply Bl.alloc)), F2 _ (by repeat (first | with_reducible assumption | with_reducible exact Bl.refl _ | with_reducible apply Bl.drew | with_reducible apply Bl.alloc))⟩)) (first | ((refine step_append_at (f := Cargo.cs) (by rfl) _ _ _ (by rfl) w2.heap.size 50 i0 _ 3 24 Try.underlying28 hi0 hz0 hz1 hz2 rfl (by omega) Cargo.cs_len Cargo.one _ 0 [] XOA.out _ (m) _ (row) (HS1.out _ XBA.out) (by rfl) (by rfl) (by unfold maxLen; omega) (by omega) XZA.out ?_); intro B1 d1 N1 w1 hN ho1 hg1 hl1; obtain rfl : (m) = N1 := (by omega); clear hN; have hb1 := Bl.row XBA.out (Nat.le_refl _) XOA.out hg1; have hs1 := hb1.le; clear hl1) | ((refine step_append_at (f := Cargo.cs) (by rfl) _ _ _ (by rfl) w2.heap.size 50 i0 _ 3 24 Try.underlying28 hi0 hz0 hz1 hz2 rfl (by omega) Cargo.cs_len Cargo.one _ 0 [] XOB.out _ (m) _ (row) (HS1.out _ XBB.out) (by rfl) (by rfl) (by unfold maxLen; omega) (by omega) XZB.out ?_); intro B1 d1 N1 w1 hN ho1 hg1 hl1; obtain rfl : (m) = N1 := (by omega); clear hN; have hb1 := Bl.row XBB.out (Nat.le_refl _) XOB.out hg1; have hs1 := hb1.le; clear hl1; have hI1 := XIB.out.grown hg1 XNB.out) | ((refine step_append_at (f := Cargo.cs) (by rfl) _ _ _ (by rfl) w2.heap.size 50 i0 _ 3 24 Try.underlying28 hi0 hz0 hz1 hz2 rfl (by omega) Cargo.cs_len Cargo.one _ 0 [] XOC.out _ (m) _ (row) (HS1.out _ XBC.out) (by rfl) (by rfl) (by unfold maxLen; omega) (by omega) XZC.out ?_); intro B1 d1 N1 w1 hN ho1 hg1 hl1; obtain rfl : (m) = N1 := (by omega); clear hN; have hb1 := Bl.row XBC.out (Nat.le_refl _) XOC.out hg1; have hs1 := hb1.le; clear hl1; have hI1 := XIC.out.grown hg1 XNC.out) | ((refine step_append_at (f := Cargo.cs) (by rfl) _ _ _ (by rfl) w2.heap.size 50 i0 _ 3 24 Try.underlying28 hi0 hz0 hz1 hz2 rfl (by omega) Cargo.cs_len Cargo.one _ (m) ([] ++ (row)) (World.ownsRow.alloc ho1 _) _ 1 _ [(⟨xa, xb, xc⟩ : Cargo)] (slOneG Cargo.cs 3 Cargo.cs_len w1 50 (⟨xa, xb, xc⟩ : Cargo) _ rfl _ rfl) (by rfl) (by rfl) (by unfold maxLen; omega) (by omega) (by simp; omega) ?_); intro CX dX NX wX hN hoX hgX hl2; obtain rfl : (m) + 1 = NX := (by omega); clear hN; have hbx := Bl.row (hb1.alloc _) (Nat.le_refl _) (World.ownsRow.alloc ho1 _) hgX; clear hl2; have HOX := Lib.hid hoX; clear hoX) | ((refine step_append_at (f := Cargo.cs) (by rfl) _ _ _ (by rfl) w2.heap.size 50 i0 _ 3 24 Try.underlying28 hi0 hz0 hz1 hz2 rfl (by omega) Cargo.cs_len Cargo.one _ (m) ([] ++ (row)) ho1 _ 1 _ [(⟨xa, xb, xc⟩ : Cargo)] hI1 (by rfl) (by rfl) (by unfold maxLen; omega) (by omega) hs1 ?_); intro CX dX NX wX hN hoX hgX hl2; obtain rfl : (m) + 1 = NX := (by omega); clear hN; have hbx := Bl.row hb1 (Nat.le_refl _) ho1 hgX; clear hl2; have HOX := Lib.hid hoX; clear hoX) | (go_at_call 76; (with_reducible refine (HGK.out _ _ _ _ (HA2.out.trans hbx) (HC2.out.bl hbx) (HST2.out.bl hbx) (RowY.of_own HOX.out (by omega) (by omega))).mono ?_); rintro e w6 ⟨rfl, hx6, hs6⟩; have cv6 := cell_of_one ((HC2.out.bl hbx).by_ hx6); have z60 := hx6.cell (F0 _ hbx) (.inr (by simp only; omega)); have z61 := hx6.cell (F1 _ hbx) (.inr (by simp only; omega)); have z62 := hx6.cell (F2 _ hbx) (.inr (by simp only; omega))))
      all_goals
        have HX6 := Lib.hid ((hx2.bl hbx).trans hx6)
        have HS6 := Lib.hid hs6
        clear F0 F1 F2 FV x0 x1 x2 c1 cv6 z60 z61 z62 XBA XBB XBC XZA XZB XZC XOA XOB XOC XIB XIC XNB XNC
        go_wp2_with fail
        first | exact ⟨⟨k + 1, by omega, by go_num, HX6.out, by rw [HN.out]; exact HS6.out⟩, by simp [intOf]; omega⟩ | (refine ⟨?_, by simp [intOf]; omega⟩; (repeat apply Exists.intro); exact ⟨⟨k + 1, by omega, by go_num, HX6.out, by rw [HN.out]; exact HS6.out⟩, rfl⟩)
    · have e : k = n := by omega
      subst e
      have HMR : Hid (∀ T : List Cargo × Int, m < k → lastC k m row T = T) := Lib.hid (fun _ h => if_pos h)
      have HML : Hid (∀ T : List Cargo × Int, ¬ m < k → lastC k m row T = mrg T (row, extOf row)) := Lib.hid (fun _ h => if_neg h)
      have H3 := Lib.hid (fun W ho => placeRow_any B m d row W ho HROW.out hcap)
      have hext := ext_pos HROW.out
      have HEX : Hid (extOf row = (placeS row m).2) := by show _ = _; rw [extOf, HLO.out]
      have c1 := HSQ.out _ hba
      generalize visKC S row G t k = T at *
      by_cases hshort : m < k
      · have HLA := Lib.hid (HMR.out T hshort)
        have q1 : (m : Int) < (k : Int) := by omega
        go_wp2_with fail
        go_end0
        exact ⟨rfl, hx, by rw [HLA.out]; exact HST.out⟩
      have HLA := Lib.hid (HML.out T hshort)
      have q1 : ¬ (m : Int) < (k : Int) := by omega
      rw [← HEX.out] at H3
      generalize extOf row = z at *
      generalize (placeS row m).1 = zs at *
      obtain ⟨sb, sz⟩ := T
      clear HMR HML
      go_wp2_with fail
      refine (H3.out _ hSo).mono ?_
      rintro e w3 ⟨C4, k4, c4, rfl, ho4, hl4, hm4, hbn⟩
      obtain ⟨C3, m3, d3, hB3, hZ3, hR3⟩ := HST.out.bl hbn
      have hx3 := hx.bl hbn
      have HOW3 := Lib.hid (HOW.out.bl hbn)
      have HST3 := Lib.hid (HST.out.bl hbn)
      have HB3 := Lib.hid hB3
      have HZ3 := Lib.hid hZ3
      have e1 := cell_of_one hB3
      have e2 := cell_of_one hZ3
      have e3 := free_of_one hB3
      have e4 := free_of_one hZ3
      simp only at e2
      clear hbn hB3 hZ3 hR3 c1 ho4 hl4 hm4 H3 HST HOW hSo
      by_cases hz : sz < 0
      · have HN := Lib.hid (HLA.out.trans (mrg_yes (s := (sb, sz)) (r := (row, z)) hext.1 (.inl hz)))
        go_wp2_with fail
        go_end0
        exact ⟨rfl, (hx3.put (by omega) (by omega) _).put (by omega) (by omega) _, by rw [HN.out]; exact stc_put HB3.out HZ3.out HOW3.out⟩
      by_cases hz2 : z < sz
      · have HN := Lib.hid (HLA.out.trans (mrg_yes (s := (sb, sz)) (r := (row, z)) hext.1 (.inr hz2)))
        go_wp2_with fail
        go_end0
        exact ⟨rfl, (hx3.put (by omega) (by omega) _).put (by omega) (by omega) _, by rw [HN.out]; exact stc_put HB3.out HZ3.out HOW3.out⟩
      · have HN := Lib.hid (HLA.out.trans (mrg_no (s := (sb, sz)) (r := (row, z)) (by simp only; omega)))
        go_wp2_with fail
        go_end0
        exact ⟨rfl, hx3, by rw [HN.out]; exact HST3.out⟩
theorem visitC_any (A : Option Addr) (n c : Nat) (SA : Option Addr) (sc : Nat) (l S : List Cargo) (hok : cargoOk l = true) (hln : l.length = n) (hS : S.Perm l) (q s r : Nat) (hqr : q < r) (hsr : s < r) (a : World) (hq : a.heap[q]? = some (.cells #[.slice A n c] 28 (0, 0))) (hs : a.heap[s]? = some (.cells #[.slice SA n sc] 28 (0, 0))) (ha : Sl Cargo.cs 3 a SA n S) (har : a.heap.size ≤ r) :
    ∀ (f m : Nat) (row : List Cargo) (B : Option Addr) (d : Nat) (t : List Cargo × Int) (w : World), row.length = m → (restOf S row).length = f → (row ++ restOf S row).Perm l → Bl a w → CapC q s r w → StC r t w → RowY Cargo.cs 3 (r + 1) (r + 2) r 50 w (.slice B m d) m row →
    Calls Try.prog 76 #[.slice B m d, .pointer (some ⟨s, 0, none⟩), .pointer (some ⟨r + 3, 0, none⟩), .pointer (some ⟨q, 0, none⟩), .pointer (some ⟨r + 2, 0, none⟩), .pointer (some ⟨r + 1, 0, none⟩)] w (VisResC r (visC S f row t) w) := by
  have h6 := cargo_len hok
  rw [hln] at h6
  have hnd : S.Nodup := hS.nodup_iff.2 (cargo_nodup hok)
  have htk : ∀ row G t, visKC S row G t n = S.foldl (fun t x => if x ∈ row then t else G x t) t := fun row G t => by rw [visKC, take_all (by rw [hS.length_eq, hln])]
  intro f
  induction f with
  | zero =>
    intro m row B d t w hlo hf hp hb hc hst ho
    have hmn : m = n := by have := hp.length_eq; rw [List.length_append, hlo, hf, hln] at this; omega
    have hall : ∀ x, x ∈ S → hasC row x = true := by
      intro x hx
      rw [hasC_iff]
      have hnil := List.eq_nil_of_length_eq_zero hf
      rw [restOf, List.filter_eq_nil_iff] at hnil
      have := hnil x hx
      simpa using this
    have h := visBodyC A n c SA sc S q s r hqr hsr h6 a hq hs ha har m row hlo (by omega) (cargo_sub hok hp) (fun _ t => t) (fun x hx hh => by rw [hall x hx] at hh; cases hh) B d t w hb hc hst ho
    rw [htk, lastC, if_neg (by omega)] at h
    have e : S.foldl (fun t x => if x ∈ row then t else (fun _ t => t) x t) t = t := by
      have : ∀ (L : List Cargo) (t : List Cargo × Int), L.foldl (fun t x => if x ∈ row then t else (fun (_ : Cargo) (t : List Cargo × Int) => t) x t) t = t := by
        intro L
        induction L with
        | nil => intro t; rfl
        | cons x L ih => intro t; rw [List.foldl_cons]; show List.foldl _ (if x ∈ row then t else t) L = t; rw [ite_self]; exact ih t
      exact this S t
    rw [e] at h
    exact h
  | succ f ih =>
    intro m row B d t w hlo hf hp hb hc hst ho
    have hmn : m + (f + 1) = n := by have := hp.length_eq; rw [List.length_append, hlo, hf, hln] at this; omega
    have h := visBodyC A n c SA sc S q s r hqr hsr h6 a hq hs ha har m row hlo (by omega) (cargo_sub hok hp) (fun x t => visC S f (row ++ [x]) t) (fun x hx hh B d t W hb hc hst ho => by
      have hxr : x ∈ restOf S row := by rw [restOf, List.mem_filter]; exact ⟨hx, by simpa using hasC_no.1 hh⟩
      have hp' := part_step hp hxr
      rw [rest_step hnd] at hp'
      refine ih (m + 1) (row ++ [x]) B d t W (by rw [List.length_append, hlo]; rfl) ?_ hp' hb hc hst ho
      rw [← rest_step hnd, List.length_erase_of_mem hxr, hf]; rfl) B d t w hb hc hst ho
    rw [htk, lastC, if_pos (by omega)] at h
    exact h
end Go.Proofs.Ytkeaobjcfkmjmaa
