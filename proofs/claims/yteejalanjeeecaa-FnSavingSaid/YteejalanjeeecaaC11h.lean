/- The contracts of the best draining in the program: a closure that visits all sequences. -/
import Derived.Test.YteejalanjeeecaaC11g
import Derived.Deep.RegionHeld3
import Derived.Laws.EntriesVeiled
namespace Go.Proofs.Yteejalanjeeecaa
open Go.RowKit
/-- What the visit captures and leaves alone: the list, the visit itself. -/
structure CapD (A : Option Addr) (n c : Nat) (q r : Nat) (w : World) : Prop where
  l : w.heap[q]? = some (.cells #[.slice A n c] 36 (0, 0))
  v : w.heap[r + 4]? = some (.cells #[.func (.func 75) #[] #[.pointer (some ⟨q, 0, none⟩), .pointer (some ⟨r + 4, 0, none⟩), .pointer (some ⟨r + 3, 0, none⟩), .pointer (some ⟨r + 2, 0, none⟩), .pointer (some ⟨r + 1, 0, none⟩)]] 82 (0, 0))
/-- What it captures and writes: the best order, what it saves, whether all were good. -/
def StD (q r : Nat) (s : (List Int × Int) × Bool) (w : World) : Prop := ∃ C m d, w.heap[r + 1]? = some (.cells #[.slice C m d] 45 (0, 0)) ∧ w.heap[r + 2]? = some (.cells #[.int .i64 s.1.2] 3 (0, 0)) ∧ w.heap[r + 3]? = some (.cells #[.bool s.2] 4 (0, 0)) ∧ RowY ci 1 (r + 1) (r + 3) q 3 w (.slice C m d) m s.1.1
def VisResD (q r : Nat) (s : (List Int × Int) × Bool) (w : World) (e : Ending) (w' : World) : Prop := e = .returned (.tuple #[]) ∧ By (r + 1) (r + 3) w w' ∧ StD q r s w'
section
variable {A : Option Addr} {n c q r : Nat} {w w' : World} {s : (List Int × Int) × Bool}
theorem CapD.bl (h : CapD A n c q r w) (hb : Bl w w') : CapD A n c q r w' := ⟨hb.one h.l, hb.one h.v⟩
theorem CapD.by_ (h : CapD A n c q r w) (hb : By (r + 1) (r + 3) w w') (hq : q + 1 ≤ r) : CapD A n c q r w' :=
  ⟨hb.one h.l (by omega), hb.one h.v (by omega)⟩
theorem StD.bl (h : StD q r s w) (hb : Bl w w') : StD q r s w' := by
  obtain ⟨C, m, d, h1, h2, h3, h4⟩ := h
  exact ⟨C, m, d, hb.one h1, hb.one h2, hb.one h3, h4.bl hb⟩
/-- The third one alone is written. -/
theorem std_put1 {b : Bool} {o : List Int} {z : Int} {B : Option Addr} {m d : Nat} {x : Value} (hB : w.heap[r + 1]? = some (.cells #[.slice B m d] 45 (0, 0))) (hZ : w.heap[r + 2]? = some (.cells #[.int .i64 z] 3 (0, 0))) (hG : w.heap[r + 3]? = some (.cells #[x] 4 (0, 0))) (hr : RowY ci 1 (r + 1) (r + 3) q 3 w (.slice B m d) m o) :
    StD q r ((o, z), b) (w.setCell ⟨r + 3, 0, none⟩ (.bool b)) := by
  refine ⟨B, m, d, ?_, ?_, one_setCell hG, hr.by_ ((By.refl _).put (by omega) (by omega) _)⟩
  · rw [Below.heap_setCell _ _ _ _ (by simp)]; exact hB
  · rw [Below.heap_setCell _ _ _ _ (by simp)]; exact hZ
theorem std_put {b : Bool} {o : List Int} {z : Int} {B : Option Addr} {m d : Nat} {x y u : Value} (hB : w.heap[r + 1]? = some (.cells #[x] 45 (0, 0))) (hZ : w.heap[r + 2]? = some (.cells #[y] 3 (0, 0))) (hG : w.heap[r + 3]? = some (.cells #[u] 4 (0, 0))) (hr : RowY ci 1 (r + 1) (r + 3) q 3 w (.slice B m d) m o) :
    StD q r ((o, z), b) (((w.setCell ⟨r + 3, 0, none⟩ (.bool b)).setCell ⟨r + 1, 0, none⟩ (.slice B m d)).setCell ⟨r + 2, 0, none⟩ (.int .i64 z)) := by
  refine ⟨B, m, d, ?_, one_setCell (v := y) ?_, ?_, hr.by_ ((((By.refl _).put (by omega) (by omega) _).put (by omega) (by omega) _).put (by omega) (by omega) _)⟩
  · rw [Below.heap_setCell _ _ _ _ (by simp)]; refine one_setCell (v := x) ?_; rw [Below.heap_setCell _ _ _ _ (by simp)]; exact hB
  · rw [Below.heap_setCell _ _ _ _ (by simp), Below.heap_setCell _ _ _ _ (by simp)]; exact hZ
  · rw [Below.heap_setCell _ _ _ _ (by simp), Below.heap_setCell _ _ _ _ (by simp)]; exact one_setCell hG
end
def visKD (o : List Int) (G : Nat → (List Int × Int) × Bool → (List Int × Int) × Bool) (s : (List Int × Int) × Bool) (k : Nat) : (List Int × Int) × Bool := foldN (fun i t => if goes o i = true then G i t else t) s k
theorem visKD_one (o : List Int) (G : Nat → (List Int × Int) × Bool → (List Int × Int) × Bool) (s : (List Int × Int) × Bool) : visKD o G s 1 = s := rfl
theorem visKD_has {o : List Int} {G : Nat → (List Int × Int) × Bool → (List Int × Int) × Bool} {s : (List Int × Int) × Bool} {k : Nat} (h : goes o k = false) : visKD o G s (k + 1) = visKD o G s k := by rw [visKD, foldN_one, if_neg (by simp [h])]; rfl
theorem visKD_new {o : List Int} {G : Nat → (List Int × Int) × Bool → (List Int × Int) × Bool} {s : (List Int × Int) × Bool} {k : Nat} (h : goes o k = true) : visKD o G s (k + 1) = G k (visKD o G s k) := by rw [visKD, foldN_one, if_pos h]; rfl
/-- What 'append(copyInts(order), i)' starts from. -/
def CopyResD (w2 : World) (m : Nat) (o : List Int) (V : World) (e : Ending) (w' : World) : Prop := ∃ C d, e = .returned (.slice C m d) ∧ w'.ownsRow w2.heap.size 3 1 (.slice C m d) m (o.flatMap ci) ∧ Bl w2 w' ∧ Bl V w'
def lastD (l : List Pool) (n m : Nat) (o : List Int) (s : (List Int × Int) × Bool) : (List Int × Int) × Bool := if m + 1 < n then s else finD l o s
set_option maxRecDepth 100000 in
set_option maxHeartbeats 4000000 in
theorem visBodyD (A : Option Addr) (n c : Nat) (l : List Pool) (q r : Nat) (hqr : q + 1 ≤ r) (hok : poolsOk l = true) (hln : l.length = n) (hnc : n ≤ c) (a : World) (ha : Sl Pool.cs 3 a A n l) (haq : a.heap.size ≤ q)
    (m : Nat) (o : List Int) (hlo : o.length = m) (hm : m + 1 ≤ n) (G : Nat → (List Int × Int) × Bool → (List Int × Int) × Bool)
    (HG : ∀ i, i < n → goes o i = true → ∀ B d s W, Bl a W → CapD A n c q r W → StD q r s W → RowY ci 1 (r + 1) (r + 3) q 3 W (.slice B (m + 1) d) (m + 1) (o ++ [(i : Int)]) →
      Calls Try.prog 75 #[.slice B (m + 1) d, .pointer (some ⟨q, 0, none⟩), .pointer (some ⟨r + 4, 0, none⟩), .pointer (some ⟨r + 3, 0, none⟩), .pointer (some ⟨r + 2, 0, none⟩), .pointer (some ⟨r + 1, 0, none⟩)] W (VisResD q r (G i s) W))
    (B : Option Addr) (d : Nat) (s : (List Int × Int) × Bool) (w : World) (hb : Bl a w) (hc : CapD A n c q r w) (hs : StD q r s w) (ho : RowY ci 1 (r + 1) (r + 3) q 3 w (.slice B m d) m o) :
    Calls Try.prog 75 #[.slice B m d, .pointer (some ⟨q, 0, none⟩), .pointer (some ⟨r + 4, 0, none⟩), .pointer (some ⟨r + 3, 0, none⟩), .pointer (some ⟨r + 2, 0, none⟩), .pointer (some ⟨r + 1, 0, none⟩)] w (VisResD q r (lastD l n m o (visKD o G s n)) w) := by
  have hl6 := len_ok hok
  rw [hln] at hl6
  have HLO := Lib.hid hlo
  have HLN := Lib.hid hln
  have HOK := Lib.hid hok
  have HGG := Lib.hid HG
  have HA := Lib.hid hb
  have HC := Lib.hid hc
  have HO := Lib.hid ho
  have hs0 := Lib.hid hs
  have c0 := cell_of_one hc.l
  have hsz := lt_of_block hc.v
  have hcap := own_cap ho.1
  clear hlo hln hok HG hb hc ho hs
  go_enter Try.func75, Try.ntmps75
  go_wp2_with fail
  go_loopw [7] (fun i wr => ∃ k : Nat, 1 ≤ k ∧ k ≤ n ∧ i = .int .i64 k ∧ By (r + 1) (r + 3) w wr ∧ StD q r (visKD o G s k) wr) (fun i _ => n - (intOf i).toNat)
  case atStart => exact ⟨1, Nat.le_refl _, by omega, rfl, By.refl _, hs0.out⟩
  case round =>
    clear c0
    obtain ⟨k, hk1, hk, rfl, hx, hst⟩ := hrel
    have HST := Lib.hid hst
    clear hst
    have hba := By.below HA.out hx (by omega)
    have HOW := Lib.hid (HO.out.by_ hx)
    have HCW := Lib.hid (HC.out.by_ hx hqr)
    have hSo := HOW.out.sl ci_len (by decide) (by omega)
    have hszr := hx.le
    have c00 := cell_of_one HCW.out.l
    by_cases hlt : k < n
    · have H1 := Lib.hid (contains_any B m d o (k : Int) wr hSo)
      have hgo := goes_pos o hk1
      cases hh : hasB o (k : Int)
      case true =>
        have HN := Lib.hid (visKD_has (G := G) (s := s) (show goes o k = false by rw [hgo, hh]; rfl))
        rw [hh] at H1
        clear hgo
        go_wp2_with fail
        refine H1.out.mono ?_
        rintro e w2 ⟨rfl, hbn⟩
        have HST2 := Lib.hid (HST.out.bl hbn)
        go_wp2_with fail
        first | exact ⟨⟨k + 1, by omega, by omega, by go_num, hx.bl hbn, by rw [HN.out]; exact HST2.out⟩, by simp [intOf]; omega⟩ | (refine ⟨?_, by simp [intOf]; omega⟩; (repeat apply Exists.intro); exact ⟨⟨k + 1, by omega, by omega, by go_num, hx.bl hbn, by rw [HN.out]; exact HST2.out⟩, rfl⟩)
      have hg : goes o k = true := by rw [hgo, hh]; rfl
      have HN := Lib.hid (visKD_new (G := G) (s := s) hg)
      have HGK := Lib.hid (HGG.out k hlt hg)
      rw [hh] at H1
      clear hgo hg
      generalize visKD o G s k = S at *
      go_wp2_with fail
      refine H1.out.mono ?_
      rintro e w2 ⟨rfl, hbn⟩
      have HST2 := Lib.hid (HST.out.bl hbn)
      have HC2 := Lib.hid (HCW.out.bl hbn)
      have HA2 := Lib.hid (hba.trans hbn)
      have hx2 := hx.bl hbn
      have hs2 := hbn.le
      have hSo2 := hSo.bl hbn
      clear H1 HST hx hba HCW hSo HOW c00
      have FV : ∀ W, Bl w2 W → W.cell? ⟨r + 4, 0, none⟩ = _ := Bl.all (cell_of_one HC2.out.v)
      have HCI : Hid (∀ V, Bl w2 V → Calls Try.prog 77 #[.slice B m d] V (CopyResD w2 m o V)) := fun V hV => (copyInts_any B m d o V (hSo2.bl hV) (by omega)).mono (by
        rintro e w' ⟨C, m', d', rfl, ho', hl', _, hb'⟩
        obtain rfl : m' = m := hl'.symm.trans HLO.out
        exact ⟨C, d', rfl, own_mono ho' hV.le, hV.trans hb', hb'⟩)
      have c1 := FV w2 (Bl.refl _)
      clear hbn
      obtain ⟨i0, hi0, hz0, hz1, hz2⟩ := info_parts infoInt
      go_wp2_with fail
      go_region_held3 (fun W => W.cell? ⟨r + 4, 0, none⟩ = some (.func (.func 75) #[] #[.pointer (some ⟨q, 0, none⟩), .pointer (some ⟨r + 4, 0, none⟩), .pointer (some ⟨r + 3, 0, none⟩), .pointer (some ⟨r + 2, 0, none⟩), .pointer (some ⟨r + 1, 0, none⟩)])) (first | (with_reducible assumption) | exact FV _ (by repeat (first | with_reducible assumption | with_reducible exact Bl.refl _ | with_reducible apply Bl.drew | with_reducible apply Bl.alloc)) | go_keep) (first | (go_at_call 77; (with_reducible refine (HCI.out _ (by repeat (first | with_reducible assumption | with_reducible exact Bl.refl _ | with_reducible apply Bl.drew | with_reducible apply Bl.alloc))).mono ?_); rintro e w3 ⟨C3, d3, rfl, ho3, hb3, hv3⟩; have hz3 := hb3.le) | ((refine step_append_at (f := ci) (by rfl) _ _ _ (by rfl) w2.heap.size 3 i0 _ 1 8 Try.underlying45 hi0 hz0 hz1 hz2 rfl (by omega) ci_len ci_one _ m o (World.ownsRow.alloc ho3 _) _ 1 _ [(k : Int)] (slOne w3 3 (k : Int) _ rfl) (by rfl) (by rfl) (by unfold maxLen; omega) (by omega) (by simp; omega) ?_); intro C5 d5 N5 w5 hN ho5 hg5 hl5; obtain rfl : N5 = m + 1 := (by omega); clear hN hl5; have hb5 := Bl.row (hb3.alloc _) (Nat.le_refl _) (World.ownsRow.alloc ho3 _) hg5) | ((refine step_append_at (f := ci) (by rfl) _ _ _ (by rfl) w2.heap.size 3 i0 _ 1 8 Try.underlying45 hi0 hz0 hz1 hz2 rfl (by omega) ci_len ci_one _ m o ho3 _ 1 _ [(k : Int)] (Sl.bl (Sl.drew (slOne w2 3 (k : Int) _ rfl)) hv3) (by rfl) (by rfl) (by unfold maxLen; omega) (by omega) hz3 ?_); intro C5 d5 N5 w5 hN ho5 hg5 hl5; obtain rfl : N5 = m + 1 := (by omega); clear hN hl5; have hb5 := Bl.row hb3 (Nat.le_refl _) ho3 hg5) | (go_at_call 75; (with_reducible refine (HGK.out _ _ _ _ (HA2.out.trans hb5) (HC2.out.bl hb5) (HST2.out.bl hb5) (RowY.of_own ho5 (by omega) (by omega))).mono ?_); rintro e w6 ⟨rfl, hx6, hs6⟩; have cv6 := cell_of_one ((HC2.out.bl hb5).by_ hx6 hqr).v))
      all_goals
        have HX6 := Lib.hid ((hx2.bl hb5).trans hx6)
        have HS6 := Lib.hid hs6
        go_wp2_with fail
        first | exact ⟨⟨k + 1, by omega, by omega, by go_num, HX6.out, by rw [HN.out]; exact HS6.out⟩, by simp [intOf]; omega⟩ | (refine ⟨?_, by simp [intOf]; omega⟩; (repeat apply Exists.intro); exact ⟨⟨k + 1, by omega, by omega, by go_num, HX6.out, by rw [HN.out]; exact HS6.out⟩, rfl⟩)
    · have e : k = n := by omega
      subst e
      have HF : Hid (finD l o (visKD o G s k) = (mxo (visKD o G s k).1 (o, (flowAllR true l o).2.1), (visKD o G s k).2 && (flowAllR true l o).2.2)) := rfl
      have HSL := Lib.hid (ha.bl hba)
      have H3 := Lib.hid (fun W h ho => implDrainChamber_any A k c l B m d o W h ho (by omega) (by omega) hnc hcap)
      have HFZ := Lib.hid (saved_all l o)
      have c1 := cell_of_one HCW.out.l
      by_cases hshort : m + 1 < k
      · have HLA : Hid (lastD l k m o (visKD o G s k) = visKD o G s k) := if_pos hshort
        have q1 : (m : Int) < (k : Int) - 1 := by omega
        go_wp2_with fail
        go_end0
        exact ⟨rfl, hx, by rw [HLA.out]; exact HST.out⟩
      have HLA : Hid (lastD l k m o (visKD o G s k) = finD l o (visKD o G s k)) := if_neg hshort
      have q1 : ¬ (m : Int) < (k : Int) - 1 := by omega
      generalize lastD l k m o (visKD o G s k) = LA at *
      generalize finD l o (visKD o G s k) = FD at *
      generalize visKD o G s k = S at *
      generalize flowAllR true l o = T at *
      obtain ⟨⟨sb, sz⟩, sg⟩ := S
      obtain ⟨T1, z, ok⟩ := T
      (try simp only at HF)
      (try simp only at H3)
      (try simp only at HFZ)
      go_wp2_with fail
      refine (H3.out _ HSL.out hSo).mono ?_
      rintro e w3 ⟨C4, k4, c4, rfl, ho4, hl4, hm4, hbn⟩
      obtain ⟨C3, m3, d3, hB3, hZ3, hG3, hR3⟩ := HST.out.bl hbn
      have hx3 := hx.bl hbn
      have HOW3 := Lib.hid (HOW.out.bl hbn)
      have HB3 := Lib.hid hB3
      have HZ3 := Lib.hid hZ3
      have HG3 := Lib.hid hG3
      have HR3 := Lib.hid hR3
      have e1 := cell_of_one hB3
      have e2 := cell_of_one hZ3
      have e5 := cell_of_one hG3
      have e3 := free_of_one hB3
      have e4 := free_of_one hZ3
      have e6 := free_of_one hG3
      simp only at e2 e5
      (try simp only at HB3)
      (try simp only at HZ3)
      (try simp only at HG3)
      (try simp only at HR3)
      clear hbn hB3 hZ3 hR3 hG3 c1 c00 ho4 hl4 hm4 H3 HST HOW HSL hSo
      by_cases hz : sz < z
      · have HN := Lib.hid (HLA.out.trans (HF.out.trans (congrArg (fun p => (p, sg && ok)) (mxo_yes (s := (sb, sz)) (r := (o, z)) hz))))
        cases sg
        · go_wp2_with fail
          go_end0
          exact ⟨rfl, ((hx3.put (by omega) (by omega) _).put (by omega) (by omega) _).put (by omega) (by omega) _, by rw [HN.out]; exact std_put HB3.out HZ3.out HG3.out HOW3.out⟩
        · go_wp2_with fail
          go_end0
          exact ⟨rfl, ((hx3.put (by omega) (by omega) _).put (by omega) (by omega) _).put (by omega) (by omega) _, by rw [HN.out]; exact std_put HB3.out HZ3.out HG3.out HOW3.out⟩
      · have HN := Lib.hid (HLA.out.trans (HF.out.trans (congrArg (fun p => (p, sg && ok)) (mxo_no (s := (sb, sz)) (r := (o, z)) hz))))
        cases sg
        · go_wp2_with fail
          go_end0
          exact ⟨rfl, hx3.put (by omega) (by omega) _, by rw [HN.out]; exact std_put1 HB3.out HZ3.out HG3.out HR3.out⟩
        · go_wp2_with fail
          go_end0
          exact ⟨rfl, hx3.put (by omega) (by omega) _, by rw [HN.out]; exact std_put1 HB3.out HZ3.out HG3.out HR3.out⟩
theorem visitD_any (A : Option Addr) (n c : Nat) (l : List Pool) (q r : Nat) (hqr : q + 1 ≤ r) (hok : poolsOk l = true) (hln : l.length = n) (hnc : n ≤ c) (a : World) (ha : Sl Pool.cs 3 a A n l) (haq : a.heap.size ≤ q) :
    ∀ (f m : Nat) (o : List Int) (B : Option Addr) (d : Nat) (s : (List Int × Int) × Bool) (w : World), o.length = m → m + f + 1 = n → orderOk n o = true → Bl a w → CapD A n c q r w → StD q r s w → RowY ci 1 (r + 1) (r + 3) q 3 w (.slice B m d) m o →
    Calls Try.prog 75 #[.slice B m d, .pointer (some ⟨q, 0, none⟩), .pointer (some ⟨r + 4, 0, none⟩), .pointer (some ⟨r + 3, 0, none⟩), .pointer (some ⟨r + 2, 0, none⟩), .pointer (some ⟨r + 1, 0, none⟩)] w (VisResD q r (visD l f o s) w) := by
  intro f
  induction f with
  | zero =>
    intro m o B d s w hlo hf hfr hb hc hs ho
    have h := visBodyD A n c l q r hqr hok hln hnc a ha haq m o hlo (by omega) (fun _ t => t) (fun i hi hh => by rw [order_full hfr (by omega) hi] at hh; cases hh) B d s w hb hc hs ho
    have e : visKD o (fun _ t => t) s n = s := by
      have : ∀ k, visKD o (fun _ t => t) s k = s := by
        intro k
        induction k with
        | zero => rfl
        | succ k ih => rw [visKD, foldN_one]; unfold visKD at ih; rw [ih]; simp
      exact this n
    rw [e, lastD, if_neg (by omega)] at h
    exact h
  | succ f ih =>
    intro m o B d s w hlo hf hfr hb hc hs ho
    have h := visBodyD A n c l q r hqr hok hln hnc a ha haq m o hlo (by omega) (fun i t => visD l f (o ++ [(i : Int)]) t) (fun i hi hh B d s W hb hc hs ho => ih (m + 1) (o ++ [(i : Int)]) B d s W (by rw [snoc_len, hlo]) (by omega) (order_snoc hfr hi hh) hb hc hs ho) B d s w hb hc hs ho
    rw [lastD, if_pos (by omega)] at h
    have e : visKD o (fun i t => visD l f (o ++ [(i : Int)]) t) s n = visD l (f + 1) o s := by rw [visD, visKD, hln]
    rw [e] at h
    exact h
theorem one_at (w : World) (v : Value) (T : TypeId) : (w.alloc (.cells #[v] T)).heap[w.heap.size]? = some (.cells #[v] T (0, 0)) := heap_alloc_new w _
theorem implDrain_start (A : Option Addr) (n c : Nat) (w w1 : World) (hb : Bl (w.alloc (.cells #[.slice A n c] 36)) w1) (q r : Nat) (hq : w.heap.size = q) (hr : w1.heap.size = r) (V : World)
    (hV : V = (((((w1.alloc (.cells #[] 3)).alloc (.cells #[.slice (some ⟨r, 0, none⟩) 0 0] 45)).alloc (.cells #[.int .i64 (-1)] 3)).alloc (.cells #[.bool true] 4)).alloc (.cells #[.func (.func 75) #[] #[.pointer (some ⟨q, 0, none⟩), .pointer (some ⟨r + 4, 0, none⟩), .pointer (some ⟨r + 3, 0, none⟩), .pointer (some ⟨r + 2, 0, none⟩), .pointer (some ⟨r + 1, 0, none⟩)]] 82)).alloc (.cells #[] 3)) :
    q + 1 ≤ r ∧ V.heap.size = r + 6 ∧ Bl w V ∧ CapD A n c q r V ∧ StD q r (([], -1), true) V ∧ RowY ci 1 (r + 1) (r + 3) q 3 V (.slice (some ⟨r + 5, 0, none⟩) 0 0) 0 [] := by
  subst hq hr
  have hle := hb.le
  simp at hle
  have hw : Bl w w1 := ((Bl.refl w).alloc _).trans hb
  have h0 : w1.heap[w.heap.size]? = some (.cells #[.slice A n c] 36 (0, 0)) := hb.one (one_at w _ _)
  have hs : Bl w1 V := by subst hV; exact (((((((Bl.refl w1).alloc _).alloc _).alloc _).alloc _).alloc _).alloc _)
  have hz : V.heap.size = w1.heap.size + 6 := by subst hV; simp
  refine ⟨by omega, hz, hw.trans hs, ⟨hs.one h0, ?_⟩, ?_, ?_⟩
  · subst hV
    have := one_at ((((w1.alloc (.cells #[] 3)).alloc (.cells #[.slice (some ⟨w1.heap.size, 0, none⟩) 0 0] 45)).alloc (.cells #[.int .i64 (-1)] 3)).alloc (.cells #[.bool true] 4)) (.func (.func 75) #[] #[.pointer (some ⟨w.heap.size, 0, none⟩), .pointer (some ⟨w1.heap.size + 4, 0, none⟩), .pointer (some ⟨w1.heap.size + 3, 0, none⟩), .pointer (some ⟨w1.heap.size + 2, 0, none⟩), .pointer (some ⟨w1.heap.size + 1, 0, none⟩)]) 82
    exact ((Bl.refl _).alloc _).one (by simpa using this)
  · refine ⟨some ⟨w1.heap.size, 0, none⟩, 0, 0, ?_, ?_, ?_, ?_, ?_⟩
    · subst hV
      have := one_at (w1.alloc (.cells #[] 3)) (.slice (some ⟨w1.heap.size, 0, none⟩) 0 0) 45
      exact (((((Bl.refl _).alloc _).alloc _).alloc _).alloc _).one (by simpa using this)
    · subst hV
      have := one_at ((w1.alloc (.cells #[] 3)).alloc (.cells #[.slice (some ⟨w1.heap.size, 0, none⟩) 0 0] 45)) (.int .i64 (-1)) 3
      exact ((((Bl.refl _).alloc _).alloc _).alloc _).one (by simpa using this)
    · subst hV
      have := one_at (((w1.alloc (.cells #[] 3)).alloc (.cells #[.slice (some ⟨w1.heap.size, 0, none⟩) 0 0] 45)).alloc (.cells #[.int .i64 (-1)] 3)) (.bool true) 4
      exact (((Bl.refl _).alloc _).alloc _).one (by simpa using this)
    · subst hV
      exact World.ownsRow.alloc (World.ownsRow.alloc (World.ownsRow.alloc (World.ownsRow.alloc (World.ownsRow.alloc (made_at ci 1 w1 3 w.heap.size _ rfl hw.le) _) _) _) _) _
    · intro g hg
      simp [Value.ownBlock] at hg
      omega
  · refine ⟨?_, ?_⟩
    · subst hV
      exact made_at ci 1 _ 3 w.heap.size _ (by simp) (by omega)
    · intro g hg
      simp [Value.ownBlock] at hg
      omega
set_option maxHeartbeats 4000000 in
theorem implBestDrain_any (A : Option Addr) (n c : Nat) (l : List Pool) (w : World) (h : Sl Pool.cs 3 w A n l) (hnc : n ≤ c) :
    Calls Try.prog 49 #[.slice A n c] w (NewRes ci 1 3 (bestDR l).1.1 (fun v => .tuple #[v, .int .i64 (bestDR l).1.2, .bool (bestDR l).2]) w) := by
  have HL := Lib.hid h.1
  have H1 := Lib.hid (fun W h => arePools_any A n c l W h)
  cases h1 : poolsOk l
  · have HR := Lib.hid (show bestDR l = (([], 0), false) by rw [bestDR, if_neg (by simp [h1])])
    have F00 : ∀ W, Bl (w.alloc (.cells #[.slice A n c] 36)) W → W.cell? ⟨w.heap.size, 0, none⟩ = some (.slice A n c) := Bl.all (by go_simp)
    have hb := Bl.refl (w.alloc (.cells #[.slice A n c] 36))
    have hb0 : Hid (Bl w (w.alloc (.cells #[.slice A n c] 36))) := (Bl.refl w).alloc _
    go_enter Try.func49, Try.ntmps49
    go_wp2_with fail
    refine (H1.out _ (h.bl hb0.out)).mono ?_
    rintro e w1 ⟨rfl, hbn⟩
    have hbw := hb0.out.trans hbn
    simp only [h1]
    go_wp2_with fail
    go_ret3
    rw [HR.out]
    exact NewRes.nil (F := fun v => .tuple #[v, _, _]) hbw
  have h6 := len_ok h1
  rw [HL.out] at h6
  have HR := Lib.hid (show bestDR l = wrapD (contD l (n - 1) []) by rw [bestDR, if_pos h1, HL.out])
  have HFO := Lib.hid (visD_all l (n - 1)).2
  have HW := Lib.hid (fun r (hr : contD l (n - 1) [] = some r) => contD_whole (n - 1) [] r (by rw [HL.out]; simp; omega) (order_nil _) hr)
  have H3 := Lib.hid (fun q r hqr haq B d s W => visitD_any A n c l q r hqr h1 HL.out hnc w h haq (n - 1) 0 [] B d s W rfl (by omega) (order_nil n))
  generalize contD l (n - 1) [] = R at *
  obtain ⟨V0, hV0⟩ : ∃ V0, visD l (n - 1) [] (([], -1), true) = V0 := ⟨_, rfl⟩
  rw [hV0] at HFO
  have HV0 := Lib.hid hV0
  clear hV0
  have F00 : ∀ W, Bl (w.alloc (.cells #[.slice A n c] 36)) W → W.cell? ⟨w.heap.size, 0, none⟩ = some (.slice A n c) := Bl.all (by go_simp)
  have hb := Bl.refl (w.alloc (.cells #[.slice A n c] 36))
  have hb0 : Hid (Bl w (w.alloc (.cells #[.slice A n c] 36))) := (Bl.refl w).alloc _
  go_enter Try.func49, Try.ntmps49
  go_wp2_with fail
  refine (H1.out _ (h.bl hb0.out)).mono ?_
  rintro e w1 ⟨rfl, hbn⟩
  simp only [h1]
  obtain ⟨s1, s2, s3, s4, s5, s6⟩ := implDrain_start A n c w w1 hbn _ _ rfl rfl _ rfl
  have S3 := Lib.hid s3
  have S4 := Lib.hid s4
  have S5 := Lib.hid s5
  have S6 := Lib.hid s6
  clear s2 s3 s4 s5 s6
  go_wp2_with fail
  refine (H3.out w.heap.size w1.heap.size s1 (Nat.le_refl _) (some ⟨w1.heap.size + 5, 0, none⟩) 0 (([], -1), true) _ S3.out S4.out S5.out S6.out).mono ?_
  rintro e w5 ⟨rfl, hx5, C5, m5, c5, hB5, hZ5, hG5, hR5⟩
  have hb5 := By.below S3.out hx5 (by omega)
  rw [HV0.out] at hZ5 hG5 hR5
  have HR5 := Lib.hid hR5.1
  cases R with
  | none =>
    have hV : V0.2 = false := HFO.out
    obtain ⟨⟨vb, vz⟩, vg⟩ := V0
    simp only at hV hB5 hZ5 hG5
    subst hV
    have g1 := Bl.all (cell_of_one hB5)
    have g2 := Bl.all (cell_of_one hZ5)
    have g3 := cell_of_one hG5
    clear hB5 hZ5 hG5 hx5 hR5 HR5
    go_wp2_with fail
    go_ret3
    rw [HR.out]
    exact NewRes.nil (F := fun v => .tuple #[v, _, _]) hb5
  | some r =>
    obtain ⟨_, hlen, hr0, hr1, _, _⟩ := HW.out r rfl
    have hV : V0 = (mxo ([], -1) r, true) := HFO.out
    rw [mxo_yes (by simp only; omega)] at hV
    subst hV
    obtain ⟨vb, vz⟩ := r
    simp only at hB5 hZ5 hG5 HR5 hlen hr0 hr1
    have g1 := Bl.all (cell_of_one hB5)
    have g2 := Bl.all (cell_of_one hZ5)
    have g3 := cell_of_one hG5
    have hm5 : m5 = vb.length := by have h9 := HR5.out.1; rw [flat_len _ 1 ci_len] at h9; omega
    have HM5 := Lib.hid hm5.symm
    have HLE : Hid (m5 ≤ 1048576) := by show _ ≤ _; rw [HL.out] at hlen; omega
    clear hB5 hZ5 hG5 hx5 hR5 hlen hm5
    go_wp2_with fail
    refine region_bl (by kernel_rfl) (by kernel_rfl) (Bl.refl w5) ?_
    repeat' (first | go_big_quiet_skip | (go_big_quiet_want; go_simp; (try go_bits); first | (refine ⟨_, fun _ _ => rfl, ?_⟩; go_big_quiet_on) | (apply Exists.intro; refine ⟨fun W hW => ?_, ?_⟩; (· go_simp; (try go_bits); rfl); go_big_quiet_on)))
    apply wpQuiet_nil
    intro W hb
    have HO6 := Lib.hid (hb.own HR5.out)
    have hb6 := hb5.trans hb
    go_wp2_with fail
    go_ret3
    rw [HR.out]
    exact NewRes.of_own (F := fun v => .tuple #[v, _, _]) HO6.out HM5.out HLE.out hb6
end Go.Proofs.Yteejalanjeeecaa
