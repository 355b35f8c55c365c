/- The contracts of the best order in the program: a closure that visits all sequences. -/
import Derived.Test.YtnckpionabokeaaC8j
import Derived.Deep.RegionHeld3
import Derived.Laws.EntriesVeiled
namespace Go.Proofs.Ytnckpionabokeaa
open Go.RowKit
/-- What the visit captures and leaves alone: the list, the way, the minutes, the visit itself. -/
structure CapS (A : Option Addr) (n c : Nat) (high : Bool) (mi : Int) (q r : Nat) (w : World) : Prop where
  l : w.heap[q]? = some (.cells #[.slice A n c] 25 (0, 0))
  h : w.heap[q + 1]? = some (.cells #[.bool high] 4 (0, 0))
  m : w.heap[q + 2]? = some (.cells #[.int .i64 mi] 3 (0, 0))
  v : w.heap[r + 3]? = some (.cells #[.func (.func 57) #[] #[.pointer (some ⟨q, 0, none⟩), .pointer (some ⟨r + 3, 0, none⟩), .pointer (some ⟨q + 1, 0, none⟩), .pointer (some ⟨q + 2, 0, none⟩), .pointer (some ⟨r + 2, 0, none⟩), .pointer (some ⟨r + 1, 0, none⟩)]] 64 (0, 0))
/-- What it captures and writes: the best order and its delay. -/
def StS (q r : Nat) (s : List Int × Int) (w : World) : Prop := ∃ C m d, w.heap[r + 1]? = some (.cells #[.slice C m d] 31 (0, 0)) ∧ w.heap[r + 2]? = some (.cells #[.int .i64 s.2] 3 (0, 0)) ∧ RowX (r + 1) (r + 2) q 3 w (.slice C m d) m s.1
def VisRes (q r : Nat) (s : List Int × Int) (w : World) (e : Ending) (w' : World) : Prop := e = .returned (.tuple #[]) ∧ Bx (r + 1) (r + 2) w w' ∧ StS q r s w'
section
variable {A : Option Addr} {n c q r : Nat} {high : Bool} {mi : Int} {w w' : World} {s : List Int × Int}
theorem CapS.bl (h : CapS A n c high mi q r w) (hb : Bl w w') : CapS A n c high mi q r w' := ⟨hb.one h.l, hb.one h.h, hb.one h.m, hb.one h.v⟩
theorem CapS.bx (h : CapS A n c high mi q r w) (hb : Bx (r + 1) (r + 2) w w') (hq : q + 3 ≤ r) : CapS A n c high mi q r w' :=
  ⟨hb.one h.l (by omega) (by omega), hb.one h.h (by omega) (by omega), hb.one h.m (by omega) (by omega), hb.one h.v (by omega) (by omega)⟩
theorem StS.bl (h : StS q r s w) (hb : Bl w w') : StS q r s w' := by
  obtain ⟨C, m, d, h1, h2, h3⟩ := h
  exact ⟨C, m, d, hb.one h1, hb.one h2, h3.bl hb⟩
theorem sts_put {o : List Int} {z : Int} {B : Option Addr} {m d : Nat} {x y : Value} (hB : w.heap[r + 1]? = some (.cells #[x] 31 (0, 0))) (hZ : w.heap[r + 2]? = some (.cells #[y] 3 (0, 0))) (hr : RowX (r + 1) (r + 2) q 3 w (.slice B m d) m o) :
    StS q r (o, z) ((w.setCell ⟨r + 1, 0, none⟩ (.slice B m d)).setCell ⟨r + 2, 0, none⟩ (.int .i64 z)) := by
  refine ⟨B, m, d, ?_, one_setCell (v := y) ?_, hr.bx (((Bx.refl _).put1 _).put2 _)⟩
  · rw [Below.heap_setCell _ _ _ _ (by simp)]; exact one_setCell hB
  · rw [Below.heap_setCell _ _ _ _ (by simp)]; exact hZ
end
def visK (o : List Int) (G : Nat → List Int × Int → List Int × Int) (s : List Int × Int) (k : Nat) : List Int × Int := foldN (fun i t => if hasB o (i : Int) = true then t else G i t) s k
theorem visK_has {o : List Int} {G : Nat → List Int × Int → List Int × Int} {s : List Int × Int} {k : Nat} (h : hasB o (k : Int) = true) : visK o G s (k + 1) = visK o G s k := by rw [visK, foldN_one, if_pos h]; rfl
theorem visK_new {o : List Int} {G : Nat → List Int × Int → List Int × Int} {s : List Int × Int} {k : Nat} (h : hasB o (k : Int) = false) : visK o G s (k + 1) = G k (visK o G s k) := by rw [visK, foldN_one, if_neg (by simp [h])]; rfl
theorem fin_no {l : List Arrival} {high : Bool} {mi : Int} {o : List Int} {s : List Int × Int} (h : implOrd l o = false) : finR l high mi o s = s := if_neg (by simp [h])
theorem fin_yes {l : List Arrival} {high : Bool} {mi : Int} {o : List Int} {s : List Int × Int} (h : implOrd l o = true) : finR l high mi o s = mrg s (o, delayZ l high mi o) := if_pos h
/-- What 'append(copyInts(order), i)' starts from. -/
def CopyRes (w2 : World) (m : Nat) (o : List Int) (V : World) (e : Ending) (w' : World) : Prop := ∃ C d, e = .returned (.slice C m d) ∧ w'.ownsRow w2.heap.size 3 1 (.slice C m d) m (o.flatMap ci) ∧ Bl w2 w' ∧ Bl V w'
set_option maxRecDepth 100000 in
set_option maxHeartbeats 4000000 in
theorem visBody (A : Option Addr) (n c : Nat) (l : List Arrival) (high : Bool) (mi : Int) (q r : Nat) (hqr : q + 3 ≤ r) (hok : arrOk l = true) (hln : l.length = n) (m0 : 1 ≤ mi) (m1 : mi ≤ 60) (a : World) (ha : Sl Arrival.cs 4 a A n l) (haq : a.heap.size ≤ q)
    (m : Nat) (o : List Int) (hlo : o.length = m) (hm : m ≤ n) (G : Nat → List Int × Int → List Int × Int)
    (HG : ∀ i, i < n → hasB o (i : Int) = false → ∀ B d s W, Bl a W → CapS A n c high mi q r W → StS q r s W → RowX (r + 1) (r + 2) q 3 W (.slice B (m + 1) d) (m + 1) (o ++ [(i : Int)]) →
      Calls Try.prog 57 #[.slice B (m + 1) d, .pointer (some ⟨q, 0, none⟩), .pointer (some ⟨r + 3, 0, none⟩), .pointer (some ⟨q + 1, 0, none⟩), .pointer (some ⟨q + 2, 0, none⟩), .pointer (some ⟨r + 2, 0, none⟩), .pointer (some ⟨r + 1, 0, none⟩)] W (VisRes q r (G i s) W))
    (B : Option Addr) (d : Nat) (s : List Int × Int) (w : World) (hb : Bl a w) (hc : CapS A n c high mi q r w) (hs : StS q r s w) (ho : RowX (r + 1) (r + 2) q 3 w (.slice B m d) m o) :
    Calls Try.prog 57 #[.slice B m d, .pointer (some ⟨q, 0, none⟩), .pointer (some ⟨r + 3, 0, none⟩), .pointer (some ⟨q + 1, 0, none⟩), .pointer (some ⟨q + 2, 0, none⟩), .pointer (some ⟨r + 2, 0, none⟩), .pointer (some ⟨r + 1, 0, none⟩)] w (VisRes q r (finR l high mi o (visK o G s n)) w) := by
  have hl6 := arr_len hok
  rw [hln] at hl6
  have HLO := Lib.hid hlo
  have HLN := Lib.hid hln
  have HOK := Lib.hid hok
  have HAV := Lib.hid (fun (i : Nat) (a : Arrival) (ha : l[i]? = some a) => (show 0 ≤ a.Minute ∧ a.Minute ≤ 9999 ∧ 0 ≤ a.Weight ∧ a.Weight ≤ 9 by have := arr_bd hok ha; omega))
  have HGG := Lib.hid HG
  have HA := Lib.hid hb
  have HC := Lib.hid hc
  have HO := Lib.hid ho
  have hs0 := Lib.hid hs
  have c0 := cell_of_one hc.l
  have hsz := lt_of_block hc.v
  have hcap := own_cap ho.1
  clear hlo hln hok HG hb hc ho hs
  go_enter Try.func57, Try.ntmps57
  go_wp2_with fail
  go_loopw [12] (fun i wr => ∃ k : Nat, k ≤ n ∧ i = .int .i64 k ∧ Bx (r + 1) (r + 2) w wr ∧ StS q r (visK o G s k) wr) (fun i _ => n - (intOf i).toNat)
  case atStart => exact ⟨0, Nat.zero_le _, rfl, Bx.refl _, hs0.out⟩
  case round =>
    clear c0
    obtain ⟨k, hk, rfl, hx, hst⟩ := hrel
    have HST := Lib.hid hst
    clear hst
    have hba := Bx.below HA.out hx (by omega) (by omega)
    have HOW := Lib.hid (HO.out.bx hx)
    have HCW := Lib.hid (HC.out.bx hx hqr)
    have hSo := HOW.out.sl (by omega)
    have hszr := hx.le
    by_cases hlt : k < n
    · have H1 := Lib.hid (contains_any B m d o (k : Int) wr hSo)
      cases hh : hasB o (k : Int)
      case true =>
        have HN := Lib.hid (visK_has (G := G) (s := s) hh)
        rw [hh] at H1
        go_wp2_with fail
        refine H1.out.mono ?_
        rintro e w2 ⟨rfl, hbn⟩
        have HST2 := Lib.hid (HST.out.bl hbn)
        go_wp2_with fail
        first | exact ⟨⟨k + 1, by omega, by go_num, hx.bl hbn, by rw [HN.out]; exact HST2.out⟩, by simp [intOf]; omega⟩ | (refine ⟨?_, by simp [intOf]; omega⟩; (repeat apply Exists.intro); exact ⟨⟨k + 1, by omega, by go_num, hx.bl hbn, by rw [HN.out]; exact HST2.out⟩, rfl⟩)
      have HN := Lib.hid (visK_new (G := G) (s := s) hh)
      have HGK := Lib.hid (HGG.out k hlt hh)
      rw [hh] at H1
      generalize visK o G s k = S at *
      go_wp2_with fail
      refine H1.out.mono ?_
      rintro e w2 ⟨rfl, hbn⟩
      have HST2 := Lib.hid (HST.out.bl hbn)
      have HC2 := Lib.hid (HCW.out.bl hbn)
      have HA2 := Lib.hid (hba.trans hbn)
      have hx2 := hx.bl hbn
      have hs2 := hbn.le
      have hSo2 := hSo.bl hbn
      clear H1 HST hx hba HCW hSo HOW
      have FV : ∀ W, Bl w2 W → W.cell? ⟨r + 3, 0, none⟩ = _ := Bl.all (cell_of_one HC2.out.v)
      have HCI : Hid (∀ V, Bl w2 V → Calls Try.prog 59 #[.slice B m d] V (CopyRes w2 m o V)) := fun V hV => (copyInts_any B m d o V (hSo2.bl hV) (by omega)).mono (by
        rintro e w' ⟨C, m', d', rfl, ho', hl', _, hb'⟩
        obtain rfl : m' = m := hl'.symm.trans HLO.out
        exact ⟨C, d', rfl, own_mono ho' hV.le, hV.trans hb', hb'⟩)
      have c1 := FV w2 (Bl.refl _)
      clear hbn
      obtain ⟨i0, hi0, hz0, hz1, hz2⟩ := info_parts infoInt
      go_wp2_with fail
      go_region_held3 (fun W => W.cell? ⟨r + 3, 0, none⟩ = some (.func (.func 57) #[] #[.pointer (some ⟨q, 0, none⟩), .pointer (some ⟨r + 3, 0, none⟩), .pointer (some ⟨q + 1, 0, none⟩), .pointer (some ⟨q + 2, 0, none⟩), .pointer (some ⟨r + 2, 0, none⟩), .pointer (some ⟨r + 1, 0, none⟩)])) (first | (with_reducible assumption) | exact FV _ (by repeat (first | with_reducible assumption | with_reducible exact Bl.refl _ | with_reducible apply Bl.drew | with_reducible apply Bl.alloc)) | go_keep) (first | (go_at_call 59; (with_reducible refine (HCI.out _ (by repeat (first | with_reducible assumption | with_reducible exact Bl.refl _ | with_reducible apply Bl.drew | with_reducible apply Bl.alloc))).mono ?_); rintro e w3 ⟨C3, d3, rfl, ho3, hb3, hv3⟩; have hz3 := hb3.le) | ((refine step_append_at (f := ci) (by rfl) _ _ _ (by rfl) w2.heap.size 3 i0 _ 1 8 Try.underlying31 hi0 hz0 hz1 hz2 rfl (by omega) ci_len ci_one _ m o (World.ownsRow.alloc ho3 _) _ 1 _ [(k : Int)] (slOne w3 3 (k : Int) _ rfl) (by rfl) (by rfl) (by unfold maxLen; omega) (by omega) (by simp; omega) ?_); intro C5 d5 N5 w5 hN ho5 hg5 hl5; obtain rfl : N5 = m + 1 := (by omega); clear hN hl5; have hb5 := Bl.row (hb3.alloc _) (Nat.le_refl _) (World.ownsRow.alloc ho3 _) hg5) | ((refine step_append_at (f := ci) (by rfl) _ _ _ (by rfl) w2.heap.size 3 i0 _ 1 8 Try.underlying31 hi0 hz0 hz1 hz2 rfl (by omega) ci_len ci_one _ m o ho3 _ 1 _ [(k : Int)] (Sl.bl (Sl.drew (slOne w2 3 (k : Int) _ rfl)) hv3) (by rfl) (by rfl) (by unfold maxLen; omega) (by omega) hz3 ?_); intro C5 d5 N5 w5 hN ho5 hg5 hl5; obtain rfl : N5 = m + 1 := (by omega); clear hN hl5; have hb5 := Bl.row hb3 (Nat.le_refl _) ho3 hg5) | (go_at_call 57; (with_reducible refine (HGK.out _ _ _ _ (HA2.out.trans hb5) (HC2.out.bl hb5) (HST2.out.bl hb5) (RowX.of_own ho5 (by omega) (by omega) (by omega))).mono ?_); rintro e w6 ⟨rfl, hx6, hs6⟩; have cv6 := cell_of_one ((HC2.out.bl hb5).bx hx6 hqr).v))
      all_goals
        have HX6 := Lib.hid ((hx2.bl hb5).trans hx6)
        have HS6 := Lib.hid hs6
        go_wp2_with fail
        first | exact ⟨⟨k + 1, by omega, by go_num, HX6.out, by rw [HN.out]; exact HS6.out⟩, by simp [intOf]; omega⟩ | (refine ⟨?_, by simp [intOf]; omega⟩; (repeat apply Exists.intro); exact ⟨⟨k + 1, by omega, by go_num, HX6.out, by rw [HN.out]; exact HS6.out⟩, rfl⟩)
    · have e : k = n := by omega
      subst e
      have HF := Lib.hid (fin_no (l := l) (high := high) (mi := mi) (o := o) (s := visK o G s k))
      have HY := Lib.hid (fin_yes (l := l) (high := high) (mi := mi) (o := o) (s := visK o G s k))
      have HSL := Lib.hid (ha.bl hba)
      have c1 := cell_of_one HCW.out.l
      have H2 := Lib.hid (fun W hl ho => isLockageOrder_any A k c l B m d o W hl ho hcap)
      generalize visK o G s k = S at *
      cases h1 : implOrd l o
      · go_wp2_with fail
        refine (H2.out _ HSL.out hSo).mono ?_
        rintro e w2 ⟨rfl, hbn⟩
        have HST2 := Lib.hid (HST.out.bl hbn)
        have hx2 := hx.bl hbn
        simp only [h1]
        go_wp2_with fail
        go_end0
        exact ⟨rfl, hx2, by rw [HF.out h1]; exact HST2.out⟩
      obtain ⟨_, _, hr⟩ := ord_parts h1
      rw [HLN.out] at hr
      have hpos := delay_pos (high := high) h1 m0 m1
      have H3 := Lib.hid (fun W h ho => lockageDelay_any A k c l high mi B m d o W h ho hr HAV.out m0 m1 (by omega))
      have HY := Lib.hid (HY.out h1)
      clear hr HF
      generalize delayZ l high mi o = z at *
      obtain ⟨sb, sz⟩ := S
      go_wp2_with fail
      refine (H2.out _ HSL.out hSo).mono ?_
      rintro e w2 ⟨rfl, hbn⟩
      have HST2 := Lib.hid (HST.out.bl hbn)
      have HC2 := Lib.hid (HCW.out.bl hbn)
      have hx2 := hx.bl hbn
      have d0 := cell_of_one HC2.out.l
      have d1 := cell_of_one HC2.out.h
      have d2 := cell_of_one HC2.out.m
      have HSL2 := Lib.hid (HSL.out.bl hbn)
      have HSo2 := Lib.hid (hSo.bl hbn)
      have HOW2 := Lib.hid (HOW.out.bl hbn)
      simp only [h1]
      clear hbn c1 hSo HSL HOW HST HCW H2
      go_wp2_with fail
      refine (H3.out _ HSL2.out HSo2.out).mono ?_
      rintro e w3 ⟨rfl, hbn⟩
      obtain ⟨C3, m3, d3, hB3, hZ3, hR3⟩ := HST2.out.bl hbn
      have hx3 := hx2.bl hbn
      have HOW3 := Lib.hid (HOW2.out.bl hbn)
      have HST3 := Lib.hid (HST2.out.bl hbn)
      have HB3 := Lib.hid hB3
      have HZ3 := Lib.hid hZ3
      have e1 := cell_of_one hB3
      have e2 := cell_of_one hZ3
      have e3 := free_of_one hB3
      have e4 := free_of_one hZ3
      simp only at e2
      clear hbn hB3 hZ3 hR3 d0 d1 d2
      by_cases hz : sz < 0
      · have HN := Lib.hid (HY.out.trans (mrg_yes hpos (.inl hz)))
        go_wp2_with fail
        go_end0
        exact ⟨rfl, (hx3.put1 _).put2 _, by rw [HN.out]; exact sts_put HB3.out HZ3.out HOW3.out⟩
      by_cases hz2 : z < sz
      · have HN := Lib.hid (HY.out.trans (mrg_yes hpos (.inr hz2)))
        go_wp2_with fail
        go_end0
        exact ⟨rfl, (hx3.put1 _).put2 _, by rw [HN.out]; exact sts_put HB3.out HZ3.out HOW3.out⟩
      · have HN := Lib.hid (HY.out.trans (mrg_no (by simp only; omega)))
        go_wp2_with fail
        go_end0
        exact ⟨rfl, hx3, by rw [HN.out]; exact HST3.out⟩
theorem visit_any (A : Option Addr) (n c : Nat) (l : List Arrival) (high : Bool) (mi : Int) (q r : Nat) (hqr : q + 3 ≤ r) (hok : arrOk l = true) (hln : l.length = n) (m0 : 1 ≤ mi) (m1 : mi ≤ 60) (a : World) (ha : Sl Arrival.cs 4 a A n l) (haq : a.heap.size ≤ q) :
    ∀ (f m : Nat) (o : List Int) (B : Option Addr) (d : Nat) (s : List Int × Int) (w : World), o.length = m → m + f = n → freO n o = true → Bl a w → CapS A n c high mi q r w → StS q r s w → RowX (r + 1) (r + 2) q 3 w (.slice B m d) m o →
    Calls Try.prog 57 #[.slice B m d, .pointer (some ⟨q, 0, none⟩), .pointer (some ⟨r + 3, 0, none⟩), .pointer (some ⟨q + 1, 0, none⟩), .pointer (some ⟨q + 2, 0, none⟩), .pointer (some ⟨r + 2, 0, none⟩), .pointer (some ⟨r + 1, 0, none⟩)] w (VisRes q r (visR l high mi f o s) w) := by
  intro f
  induction f with
  | zero =>
    intro m o B d s w hlo hf hfr hb hc hs ho
    have h := visBody A n c l high mi q r hqr hok hln m0 m1 a ha haq m o hlo (by omega) (fun _ t => t) (fun i hi hh => by rw [fre_full hfr (by omega) hi] at hh; cases hh) B d s w hb hc hs ho
    have e : visK o (fun _ t => t) s n = s := foldN_id _ fun i _ => by simp
    rw [e] at h
    exact h
  | succ f ih =>
    intro m o B d s w hlo hf hfr hb hc hs ho
    have h := visBody A n c l high mi q r hqr hok hln m0 m1 a ha haq m o hlo (by omega) (fun i t => visR l high mi f (o ++ [(i : Int)]) t) (fun i hi hh B d s W hb hc hs ho => ih (m + 1) (o ++ [(i : Int)]) B d s W (by rw [snoc_len, hlo]) (by omega) (fre_snoc hfr hi hh) hb hc hs ho) B d s w hb hc hs ho
    have e : finR l high mi o (visK o (fun i t => visR l high mi f (o ++ [(i : Int)]) t) s n) = visR l high mi (f + 1) o s := by rw [visR, visK, hln]
    rw [e] at h
    exact h
theorem one_at (w : World) (v : Value) (T : TypeId) : (w.alloc (.cells #[v] T)).heap[w.heap.size]? = some (.cells #[v] T (0, 0)) := heap_alloc_new w _
theorem implBest_start (A : Option Addr) (n c : Nat) (high : Bool) (mi : Int) (w w1 : World) (hb : Bl (((w.alloc (.cells #[.slice A n c] 25)).alloc (.cells #[.bool high] 4)).alloc (.cells #[.int .i64 mi] 3)) w1) (q r : Nat) (hq : w.heap.size = q) (hr : w1.heap.size = r) (V : World)
    (hV : V = ((((w1.alloc (.cells #[] 3)).alloc (.cells #[.slice (some ⟨r, 0, none⟩) 0 0] 31)).alloc (.cells #[.int .i64 (-1)] 3)).alloc (.cells #[.func (.func 57) #[] #[.pointer (some ⟨q, 0, none⟩), .pointer (some ⟨r + 3, 0, none⟩), .pointer (some ⟨q + 1, 0, none⟩), .pointer (some ⟨q + 2, 0, none⟩), .pointer (some ⟨r + 2, 0, none⟩), .pointer (some ⟨r + 1, 0, none⟩)]] 64)).alloc (.cells #[] 3)) :
    q + 3 ≤ r ∧ V.heap.size = r + 5 ∧ Bl w V ∧ CapS A n c high mi q r V ∧ StS q r ([], -1) V ∧ RowX (r + 1) (r + 2) q 3 V (.slice (some ⟨r + 4, 0, none⟩) 0 0) 0 [] := by
  subst hq hr
  have hle := hb.le
  simp at hle
  have hw : Bl w w1 := (((Bl.refl w).alloc _).alloc _ |>.alloc _).trans hb
  have h0 : w1.heap[w.heap.size]? = some (.cells #[.slice A n c] 25 (0, 0)) := hb.one ((((Bl.refl _).alloc _).alloc _).one (one_at w _ _))
  have h1 : w1.heap[w.heap.size + 1]? = some (.cells #[.bool high] 4 (0, 0)) := hb.one (((Bl.refl _).alloc _).one (by have := one_at (w.alloc (.cells #[.slice A n c] 25)) (.bool high) 4; simpa using this))
  have h2 : w1.heap[w.heap.size + 2]? = some (.cells #[.int .i64 mi] 3 (0, 0)) := hb.one (by have := one_at ((w.alloc (.cells #[.slice A n c] 25)).alloc (.cells #[.bool high] 4)) (.int .i64 mi) 3; simpa using this)
  have hs : Bl w1 V := by subst hV; exact ((((((Bl.refl w1).alloc _).alloc _).alloc _).alloc _).alloc _)
  have hz : V.heap.size = w1.heap.size + 5 := by subst hV; simp
  refine ⟨by omega, hz, hw.trans hs, ⟨hs.one h0, hs.one h1, hs.one h2, ?_⟩, ?_, ?_⟩
  · subst hV
    have := one_at (((w1.alloc (.cells #[] 3)).alloc (.cells #[.slice (some ⟨w1.heap.size, 0, none⟩) 0 0] 31)).alloc (.cells #[.int .i64 (-1)] 3)) (.func (.func 57) #[] #[.pointer (some ⟨w.heap.size, 0, none⟩), .pointer (some ⟨w1.heap.size + 3, 0, none⟩), .pointer (some ⟨w.heap.size + 1, 0, none⟩), .pointer (some ⟨w.heap.size + 2, 0, none⟩), .pointer (some ⟨w1.heap.size + 2, 0, none⟩), .pointer (some ⟨w1.heap.size + 1, 0, none⟩)]) 64
    exact ((Bl.refl _).alloc _).one (by simpa using this)
  · refine ⟨some ⟨w1.heap.size, 0, none⟩, 0, 0, ?_, ?_, ?_, ?_⟩
    · subst hV
      have := one_at (w1.alloc (.cells #[] 3)) (.slice (some ⟨w1.heap.size, 0, none⟩) 0 0) 31
      exact ((((Bl.refl _).alloc _).alloc _).alloc _).one (by simpa using this)
    · subst hV
      have := one_at ((w1.alloc (.cells #[] 3)).alloc (.cells #[.slice (some ⟨w1.heap.size, 0, none⟩) 0 0] 31)) (.int .i64 (-1)) 3
      exact (((Bl.refl _).alloc _).alloc _).one (by simpa using this)
    · subst hV
      exact World.ownsRow.alloc (World.ownsRow.alloc (World.ownsRow.alloc (World.ownsRow.alloc (made_at ci 1 w1 3 w.heap.size _ rfl hw.le) _) _) _) _
    · intro g hg
      simp [Value.ownBlock] at hg
      omega
  · refine ⟨?_, ?_⟩
    · subst hV
      exact made_at ci 1 _ 3 w.heap.size _ (by simp) (by omega)
    · intro g hg
      simp [Value.ownBlock] at hg
      omega
set_option maxHeartbeats 4000000 in
theorem implBestLockages_any (A : Option Addr) (n c : Nat) (l : List Arrival) (high : Bool) (mi : Int) (w : World) (h : Sl Arrival.cs 4 w A n l) :
    Calls Try.prog 23 #[.slice A n c, .bool high, .int .i64 mi] w (NewRes ci 1 3 (bestR l high mi).1.1 (fun v => .tuple #[v, .int .i64 (bestR l high mi).1.2, .bool (bestR l high mi).2]) w) := by
  have HL := Lib.hid h.1
  have H1 := Lib.hid (fun W h => areArrivals_any A n c l W h)
  have H2m := Lib.hid (fun w => same_bl (areMinutes_any mi w))
  cases h1 : arrOk l
  · have HR := Lib.hid (show bestR l high mi = (([], 0), false) by rw [bestR, if_neg (by simp [h1])])
    have F00 : ∀ W, Bl (((w.alloc (.cells #[.slice A n c] 25)).alloc (.cells #[.bool high] 4)).alloc (.cells #[.int .i64 mi] 3)) W → W.cell? ⟨w.heap.size, 0, none⟩ = some (.slice A n c) := Bl.all (by go_simp)
    have F10 : ∀ W, Bl (((w.alloc (.cells #[.slice A n c] 25)).alloc (.cells #[.bool high] 4)).alloc (.cells #[.int .i64 mi] 3)) W → W.cell? ⟨w.heap.size + 1, 0, none⟩ = some (.bool high) := Bl.all (by go_simp)
    have F20 : ∀ W, Bl (((w.alloc (.cells #[.slice A n c] 25)).alloc (.cells #[.bool high] 4)).alloc (.cells #[.int .i64 mi] 3)) W → W.cell? ⟨w.heap.size + 2, 0, none⟩ = some (.int .i64 mi) := Bl.all (by go_simp)
    have hb := Bl.refl (((w.alloc (.cells #[.slice A n c] 25)).alloc (.cells #[.bool high] 4)).alloc (.cells #[.int .i64 mi] 3))
    have hb0 : Hid (Bl w (((w.alloc (.cells #[.slice A n c] 25)).alloc (.cells #[.bool high] 4)).alloc (.cells #[.int .i64 mi] 3))) := (((Bl.refl w).alloc _).alloc _).alloc _
    go_enter Try.func23, Try.ntmps23
    go_wp2_with fail
    refine (H1.out _ (h.bl hb0.out)).mono ?_
    rintro e w1 ⟨rfl, hbn⟩
    have hbw := hb0.out.trans hbn
    simp only [h1]
    go_wp2_with fail
    go_ret3
    rw [HR.out]
    exact NewRes.nil (F := fun v => .tuple #[v, _, _]) hbw
  cases h2 : inB mi 1 60
  · have HR := Lib.hid (show bestR l high mi = (([], 0), false) by rw [bestR, if_neg (by simp [h2])])
    have F00 : ∀ W, Bl (((w.alloc (.cells #[.slice A n c] 25)).alloc (.cells #[.bool high] 4)).alloc (.cells #[.int .i64 mi] 3)) W → W.cell? ⟨w.heap.size, 0, none⟩ = some (.slice A n c) := Bl.all (by go_simp)
    have F10 : ∀ W, Bl (((w.alloc (.cells #[.slice A n c] 25)).alloc (.cells #[.bool high] 4)).alloc (.cells #[.int .i64 mi] 3)) W → W.cell? ⟨w.heap.size + 1, 0, none⟩ = some (.bool high) := Bl.all (by go_simp)
    have F20 : ∀ W, Bl (((w.alloc (.cells #[.slice A n c] 25)).alloc (.cells #[.bool high] 4)).alloc (.cells #[.int .i64 mi] 3)) W → W.cell? ⟨w.heap.size + 2, 0, none⟩ = some (.int .i64 mi) := Bl.all (by go_simp)
    have hb := Bl.refl (((w.alloc (.cells #[.slice A n c] 25)).alloc (.cells #[.bool high] 4)).alloc (.cells #[.int .i64 mi] 3))
    have hb0 : Hid (Bl w (((w.alloc (.cells #[.slice A n c] 25)).alloc (.cells #[.bool high] 4)).alloc (.cells #[.int .i64 mi] 3))) := (((Bl.refl w).alloc _).alloc _).alloc _
    go_enter Try.func23, Try.ntmps23
    go_wp2_with fail
    refine (H1.out _ (h.bl hb0.out)).mono ?_
    rintro e w1 ⟨rfl, hbn⟩
    have hbw := hb0.out.trans hbn
    have g0 := F20 _ hbn
    simp only [h1]
    go_wp2_with fail
    refine (H2m.out _).mono ?_
    rintro e w2 ⟨rfl, hbn2⟩
    simp only [h2]
    go_wp2_with fail
    go_ret3
    rw [HR.out]
    exact NewRes.nil (F := fun v => .tuple #[v, _, _]) (hbw.trans hbn2)
  obtain ⟨m0, m1⟩ := inB_iff.1 h2
  have h6 := arr_len h1
  rw [HL.out] at h6
  have HR := Lib.hid (show bestR l high mi = (contB l high mi n [], true) by rw [bestR, if_pos ⟨h1, h2⟩, HL.out])
  have HE := Lib.hid (show visR l high mi n [] ([], -1) = contB l high mi n [] by have := vis_all (high := high) h1 m0 m1; rwa [HL.out] at this)
  have HLEN := Lib.hid (show (contB l high mi n []).1.length = n by have := (ord_parts (best_facts (high := high) h1 m0 m1).1).2.1; rwa [HL.out] at this)
  have H3 := Lib.hid (fun q r hqr haq B d s W => visit_any A n c l high mi q r hqr h1 HL.out m0 m1 w h haq n 0 [] B d s W rfl (by omega) (fre_nil n))
  generalize contB l high mi n [] = R at *
  have F00 : ∀ W, Bl (((w.alloc (.cells #[.slice A n c] 25)).alloc (.cells #[.bool high] 4)).alloc (.cells #[.int .i64 mi] 3)) W → W.cell? ⟨w.heap.size, 0, none⟩ = some (.slice A n c) := Bl.all (by go_simp)
  have F10 : ∀ W, Bl (((w.alloc (.cells #[.slice A n c] 25)).alloc (.cells #[.bool high] 4)).alloc (.cells #[.int .i64 mi] 3)) W → W.cell? ⟨w.heap.size + 1, 0, none⟩ = some (.bool high) := Bl.all (by go_simp)
  have F20 : ∀ W, Bl (((w.alloc (.cells #[.slice A n c] 25)).alloc (.cells #[.bool high] 4)).alloc (.cells #[.int .i64 mi] 3)) W → W.cell? ⟨w.heap.size + 2, 0, none⟩ = some (.int .i64 mi) := Bl.all (by go_simp)
  have hb := Bl.refl (((w.alloc (.cells #[.slice A n c] 25)).alloc (.cells #[.bool high] 4)).alloc (.cells #[.int .i64 mi] 3))
  have hb0 : Hid (Bl w (((w.alloc (.cells #[.slice A n c] 25)).alloc (.cells #[.bool high] 4)).alloc (.cells #[.int .i64 mi] 3))) := (((Bl.refl w).alloc _).alloc _).alloc _
  go_enter Try.func23, Try.ntmps23
  go_wp2_with fail
  refine (H1.out _ (h.bl hb0.out)).mono ?_
  rintro e w1 ⟨rfl, hbn⟩
  have g0 := F20 _ hbn
  simp only [h1]
  go_wp2_with fail
  refine (H2m.out _).mono ?_
  rintro e w2 ⟨rfl, hbn2⟩
  have hb2 := hbn.trans hbn2
  simp only [h2]
  obtain ⟨s1, s2, s3, s4, s5, s6⟩ := implBest_start A n c high mi w w2 hb2 _ _ rfl rfl _ rfl
  have S3 := Lib.hid s3
  have S4 := Lib.hid s4
  have S5 := Lib.hid s5
  have S6 := Lib.hid s6
  clear s2 s3 s4 s5 s6
  go_wp2_with fail
  refine (H3.out w.heap.size w2.heap.size s1 (Nat.le_refl _) (some ⟨w2.heap.size + 4, 0, none⟩) 0 ([], -1) _ S3.out S4.out S5.out S6.out).mono ?_
  rintro e w5 ⟨rfl, hx5, C5, m5, c5, hB5, hZ5, hR5⟩
  rw [HE.out] at hZ5 hR5
  have hb5 := Bx.below S3.out hx5 (by omega) (by omega)
  have g1 := Bl.all (cell_of_one hB5)
  have g2 := Bl.all (cell_of_one hZ5)
  have hm5 : m5 = n := by have := hR5.len; rw [← this]; exact HLEN.out
  subst hm5
  have HO5 := Lib.hid hR5.1
  clear hB5 hZ5 hx5 hR5
  go_wp2_with fail
  refine region_bl (by kernel_rfl) (by kernel_rfl) (Bl.refl w5) ?_
  repeat' (first | go_big_quiet_skip | (go_big_quiet_want; go_simp; (try go_bits); first | (refine ⟨_, fun _ _ => rfl, ?_⟩; go_big_quiet_on) | (apply Exists.intro; refine ⟨fun W hW => ?_, ?_⟩; (· go_simp; (try go_bits); rfl); go_big_quiet_on)))
  apply wpQuiet_nil
  intro W hb
  have HO6 := Lib.hid (hb.own HO5.out)
  have hb6 := hb5.trans hb
  go_wp2_with fail
  go_ret3
  rw [HR.out]
  exact NewRes.of_own (F := fun v => .tuple #[v, _, _]) HO6.out HLEN.out (by omega) hb6
end Go.Proofs.Ytnckpionabokeaa
