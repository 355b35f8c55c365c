/- The contracts of the shortest row in the reference, by recursion. -/
import Derived.Test.YtkeaobjcfkmjmaaQ7e
import Derived.Test.YtkeaobjcfkmjmaaC7d
import Derived.Test.YtkeaobjcfkmjmaaD7
import Derived.Test.YtkeaobjcfkmjmaaBaseY
namespace Go.Proofs.Ytkeaobjcfkmjmaa
open Go.RowKit
/-- What has been found behind the first k ways to go on. -/
def contCK (f : Nat) (row rest : List Cargo) (k : Nat) : List Cargo × Int := (rest.take k).foldl (fun s x => mrg s (contC f (row ++ [x]) (rest.erase x))) ([], -1)
theorem contCK_one {f : Nat} {row rest : List Cargo} {k : Nat} {x : Cargo} (h : rest[k]? = some x) : contCK f row rest (k + 1) = mrg (contCK f row rest k) (contC f (row ++ [x]) (rest.erase x)) := by
  rw [contCK, take_one h, List.foldl_append]; rfl
theorem contCK_end {f : Nat} {row rest : List Cargo} {n : Nat} (h : rest.length = n) : contC (f + 1) row rest = contCK f row rest n := by
  rw [contC, contCK, take_all h]
theorem erase_at {l : List Cargo} (hn : l.Nodup) {k : Nat} {x : Cargo} (h : l[k]? = some x) : l.take k ++ l.drop (k + 1) = l.erase x := by
  induction l generalizing k with
  | nil => simp at h
  | cons y l ih =>
    have hn' := List.nodup_cons.1 hn
    cases k with
    | zero =>
      have : y = x := by simpa using h
      subst this
      simp
    | succ k =>
      have h' : l[k]? = some x := by simpa using h
      have hne : y ≠ x := fun e => hn'.1 (by rw [e]; exact List.mem_of_getElem? h')
      have e2 : (y :: l).erase x = y :: l.erase x := by rw [List.erase_cons]; simp [hne]
      rw [e2, ← ih hn'.2 h']
      simp
/-- What a call that continues a row hands back. -/
def BestResC (bs : Nat) (R : List Cargo × Int) (w : World) (e : Ending) (w' : World) : Prop := ∃ C m c2, e = .returned (.tuple #[.slice C m c2, .int .i64 R.2]) ∧ Bl w w' ∧ w'.ownsRow bs 50 3 (.slice C m c2) m (R.1.flatMap Cargo.cs)
set_option maxRecDepth 100000 in
set_option maxHeartbeats 8000000 in
theorem l7Best_any (l : List Cargo) (hok : cargoOk l = true) :
    ∀ (f : Nat) (row rest : List Cargo) (B : Option Addr) (m d : Nat) (R : Option Addr) (p pd bs : Nat) (w : World), w.ownsRow bs 50 3 (.slice B m d) m (row.flatMap Cargo.cs) → Sl Cargo.cs 3 w R p rest → p ≤ pd → bs ≤ w.heap.size → row.length = m → rest.length = f → (row ++ rest).Perm l →
    Calls Try.prog 73 #[.slice B m d, .slice R p pd] w (BestResC bs (contC f row rest) w) := by
  have HOK := Lib.hid hok
  have hl6 := cargo_len hok
  clear hok
  intro f
  induction f with
  | zero =>
    intro row rest B m d R p pd bs w ho hr hpd hbs hlo hf hp
    have hp0 : p = 0 := by have := hr.1; omega
    subst hp0
    have hrow := cargo_sub HOK.out hp
    have hm6 : m ≤ 6 := by have := hp.length_eq; rw [List.length_append] at this; omega
    have hS := Sl.of_own Cargo.cs_len ho hlo (by omega)
    have HO := Lib.hid ho
    have H1 := Lib.hid (l7Place_any B m d row w hS hrow)
    have HE : Hid (contC 0 row rest = (row, (placeS row m).2)) := by show _ = _; rw [contC, extOf, hlo]
    generalize contC 0 row rest = T at *
    clear ho hr hlo hf hp hrow hS
    go_enter Try.func73, Try.ntmps73
    go_wp2_with fail
    refine H1.out.mono ?_
    rintro e w1 ⟨C, k, c4, rfl, ho4, hl4, hm4, hb⟩
    clear ho4 hl4
    go_wp2_with fail
    go_ret2
    exact ⟨B, m, d, by rw [HE.out]; rfl, hb, by rw [HE.out]; exact hb.own HO.out⟩
  | succ f ih =>
    intro row rest B m d R p pd bs w ho hr hpd hbs hlo hf hp
    have hlen : m + p ≤ 6 := by have h1 := hp.length_eq; rw [List.length_append] at h1; have := hr.1; omega
    have hpf : p = f + 1 := by have := hr.1; omega
    have hpne : ((p : Int) == 0) = false := by simp; omega
    have HPF := Lib.hid hpf
    clear hpf
    have hS := Sl.of_own Cargo.cs_len ho hlo (by omega)
    have HLO := Lib.hid hlo
    have HRL := Lib.hid hr.1
    have HE := Lib.hid (contCK_end (f := f) (row := row) hr.1)
    have HND : Hid rest.Nodup := by
      have := hp.nodup_iff.2 (cargo_nodup HOK.out)
      exact (List.nodup_append.1 this).2.1
    have HP := Lib.hid hp
    have HO := Lib.hid ho
    have IH := Lib.hid ih
    have HPOS := Lib.hid (fun (x : Cargo) (hx : x ∈ rest) => contC_pos HOK.out f (row ++ [x]) (rest.erase x) (part_step hp hx) (by rw [List.length_erase_of_mem hx, hf]; rfl))
    have hmade := made_at Cargo.cs 3 w 50 bs _ rfl hbs
    have hb := (Bl.refl w).alloc (.cells #[] 50)
    clear ho ih hlo hf hp
    go_enter Try.func73, Try.ntmps73
    go_wp2_with fail
    go_loopw [8, 9, 10] (fun b z i wr => ∃ (k : Nat) (Cb : Option Addr) (mb cb : Nat), k ≤ p ∧ i = .int .i64 k ∧ b = .slice Cb mb cb ∧ z = .int .i64 (contCK f row rest k).2 ∧ Bl w wr ∧ Hid (wr.ownsRow bs 50 3 (.slice Cb mb cb) mb ((contCK f row rest k).1.flatMap Cargo.cs))) (fun _ _ i _ => p - (intOf i).toNat)
    case atStart => exact ⟨0, _, 0, 0, Nat.zero_le _, rfl, rfl, rfl, hb, hmade⟩
    case round =>
      clear hb hmade
      obtain ⟨k, Cb, mb, cb, hk, rfl, rfl, rfl, hb, HOR⟩ := hrel
      by_cases hlt : k < p
      · obtain ⟨b1, o1, x, rfl, ex, c1, c2, c3⟩ := hr.Cargo hlt
        have HN := Lib.hid (contCK_one (f := f) (row := row) ex)
        have hxm := List.mem_of_getElem? ex
        have HXP := Lib.hid (HPOS.out x hxm)
        have HER := Lib.hid (erase_at HND.out ex)
        have HIH := Lib.hid (fun C5 d5 R5 p5 pd5 W ho hrr hpd5 hbs => IH.out (row ++ [x]) (rest.erase x) C5 (m + 1) d5 R5 p5 pd5 bs W ho hrr hpd5 hbs (by rw [List.length_append, HLO.out]; rfl) (by rw [List.length_erase_of_mem hxm, HRL.out, HPF.out]; rfl) (part_step HP.out hxm))
        have HS1 : Hid (∀ V, Bl wr V → Sl Cargo.cs 3 V B m row) := fun V hV => hS.bl (hb.trans hV)
        have HT1 : Hid (∀ V, Bl wr V → Sl Cargo.cs 3 V (some ⟨b1, o1, none⟩) k (rest.take k)) := fun V hV => (hr.bl (hb.trans hV)).take_ (by omega)
        have HT2 : Hid (∀ V, Bl wr V → Sl Cargo.cs 3 V (if pd = k + 1 then (some ⟨b1, o1, none⟩ : Option Addr) else (some ⟨b1, o1, none⟩ : Option Addr).map fun a => a.add ((k + 1) * 3)) (p - (k + 1)) (rest.drop (k + 1))) := fun V hV => (hr.bl (hb.trans hV)).drop_ (by omega) hpd
        have hle9 := hb.le
        have F0 : ∀ V, Bl wr V → V.cell? ⟨b1, o1 + k * 3, none⟩ = _ := fun V hV => c1 V (hb.trans hV)
        have F1 : ∀ V, Bl wr V → V.cell? ⟨b1, o1 + k * 3 + 1, none⟩ = _ := fun V hV => c2 V (hb.trans hV)
        have F2 : ∀ V, Bl wr V → V.cell? ⟨b1, o1 + k * 3 + 2, none⟩ = _ := fun V hV => c3 V (hb.trans hV)
        have g1 := F0 _ (Bl.refl _)
        have g2 := F1 _ (Bl.refl _)
        have g3 := F2 _ (Bl.refl _)
        obtain ⟨xa, xb, xc⟩ := x
        simp only at F0 F1 F2 g1 g2 g3
        have k1 : (0 : Int) ≤ (k : Int) := by omega
        have k2 : (k : Int) < (p : Int) := by omega
        have k3 : (k : Int) ≤ (pd : Int) := by omega
        have k4 : (0 : Int) ≤ (k : Int) + 1 := by omega
        have k5 : (k : Int) + 1 ≤ (p : Int) := by omega
        have k6 : (k : Int) + 1 ≤ (pd : Int) := by omega
        have k7 : ((k : Int) + 1).toNat = k + 1 := by omega
        have hk6 : k ≤ 5 := by omega
        clear c1 c2 c3 ex IH hxm
        go_wp2_with fail
        have XBA : Hid (Bl wr ((wr.alloc (.cells #[] 50)).drew)) := ((Bl.refl wr).alloc _).drew
        have XBB : Hid (Bl wr (((wr.alloc (.cells #[] 50)).alloc (.cells #[.int .i64 xa, .int .i64 xb, .int .i64 xc] 50)).drew)) := (((Bl.refl wr).alloc _).alloc _).drew
        have XBC : Hid (Bl wr (((wr.alloc (.cells #[.int .i64 xa, .int .i64 xb, .int .i64 xc] 50)).alloc (.cells #[] 50)).drew)) := (((Bl.refl wr).alloc _).alloc _).drew
        have XZA := Lib.hid XBA.out.le
        have XZB := Lib.hid XBB.out.le
        have XZC := Lib.hid XBC.out.le
        have XOA : Hid (World.ownsRow ((wr.alloc (.cells #[] 50)).drew) wr.heap.size 50 3 (.slice (some ⟨wr.heap.size, 0, none⟩) 0 0) 0 (([] : List Cargo).flatMap Cargo.cs)) := (made_at Cargo.cs 3 wr 50 wr.heap.size _ rfl (Nat.le_refl _)).drew
        have XOB : Hid (World.ownsRow (((wr.alloc (.cells #[] 50)).alloc (.cells #[.int .i64 xa, .int .i64 xb, .int .i64 xc] 50)).drew) wr.heap.size 50 3 (.slice (some ⟨wr.heap.size, 0, none⟩) 0 0) 0 (([] : List Cargo).flatMap Cargo.cs)) := (World.ownsRow.alloc (made_at Cargo.cs 3 wr 50 wr.heap.size _ rfl (Nat.le_refl _)) _).drew
        have XOC : Hid (World.ownsRow (((wr.alloc (.cells #[.int .i64 xa, .int .i64 xb, .int .i64 xc] 50)).alloc (.cells #[] 50)).drew) wr.heap.size 50 3 (.slice (some ⟨wr.heap.size + 1, 0, none⟩) 0 0) 0 (([] : List Cargo).flatMap Cargo.cs)) := (made_at Cargo.cs 3 (wr.alloc (.cells #[.int .i64 xa, .int .i64 xb, .int .i64 xc] 50)) 50 wr.heap.size _ (by simp) (by omega)).drew
        have XIB : Hid (Sl Cargo.cs 3 (((wr.alloc (.cells #[] 50)).alloc (.cells #[.int .i64 xa, .int .i64 xb, .int .i64 xc] 50)).drew) (some ⟨wr.heap.size + 1, 0, none⟩) 1 [(⟨xa, xb, xc⟩ : Cargo)]) := (slOneG Cargo.cs 3 Cargo.cs_len (wr.alloc (.cells #[] 50)) 50 (⟨xa, xb, xc⟩ : Cargo) _ rfl (wr.heap.size + 1) (by simp)).drew
        have XIC : Hid (Sl Cargo.cs 3 (((wr.alloc (.cells #[.int .i64 xa, .int .i64 xb, .int .i64 xc] 50)).alloc (.cells #[] 50)).drew) (some ⟨wr.heap.size, 0, none⟩) 1 [(⟨xa, xb, xc⟩ : Cargo)]) := ((slOneG Cargo.cs 3 Cargo.cs_len wr 50 (⟨xa, xb, xc⟩ : Cargo) _ rfl wr.heap.size rfl).bl ((Bl.refl _).alloc _)).drew
        have XNB : Hid (∀ b o s, (some ⟨wr.heap.size + 1, 0, none⟩ : Option Addr) = some ⟨b, o, s⟩ → some b ≠ (Value.slice (some ⟨wr.heap.size, 0, none⟩) 0 0).ownBlock) := fun b o s e => by
          injection e with e; injection e with e1; subst e1; intro e2; simp [Value.ownBlock] at e2
        have XNC : Hid (∀ b o s, (some ⟨wr.heap.size, 0, none⟩ : Option Addr) = some ⟨b, o, s⟩ → some b ≠ (Value.slice (some ⟨wr.heap.size + 1, 0, none⟩) 0 0).ownBlock) := fun b o s e => by
          injection e with e; injection e with e1; subst e1; intro e2; simp [Value.ownBlock] at e2
        obtain ⟨i0, hi0, hz0, hz1, hz2⟩ := info_parts infoCargo
        go_region_held3 (fun V => V.cell? ⟨b1, o1 + k * 3, none⟩ = some (.int .i64 xa) ∧ V.cell? ⟨b1, o1 + k * 3 + 1, none⟩ = some (.int .i64 xb) ∧ V.cell? ⟨b1, o1 + k * 3 + 2, none⟩ = some (.int .i64 xc)) ((first | (with_reducible assumption) | exact ⟨F0 _ (by repeat (first | with_reducible assumption | with_reducible exact Bl.refl _ | with_reducible apply Bl.drew | with_reducible apply Bl.alloc)), F1 _ (by repeat (first | with_reducible assumption | with_reducible exact Bl.refl _ | with_reducible apply Bl.drew | with_reducible apply Bl.alloc)), F2 _ (by repeat (first | with_reducible assumption | with_reducible exact Bl.refl _ | with_reducible apply Bl.drew | with_reducible apply Bl.alloc))⟩)) (first | ((refine step_append_at (f := Cargo.cs) (by rfl) _ _ _ (by rfl) wr.heap.size 50 i0 _ 3 24 Try.underlying28 hi0 hz0 hz1 hz2 rfl (by omega) Cargo.cs_len Cargo.one _ 0 [] XOA.out _ (m) _ (row) (HS1.out _ XBA.out) (by rfl) (by rfl) (by unfold maxLen; omega) (by omega) XZA.out ?_); intro B1 d1 N1 w1 hN ho1 hg1 hl1; obtain rfl : (m) = N1 := (by omega); clear hN; have hb1 := Bl.row XBA.out (Nat.le_refl _) XOA.out hg1; have hs1 := hb1.le; clear hl1) | ((refine step_append_at (f := Cargo.cs) (by rfl) _ _ _ (by rfl) wr.heap.size 50 i0 _ 3 24 Try.underlying28 hi0 hz0 hz1 hz2 rfl (by omega) Cargo.cs_len Cargo.one _ 0 [] XOB.out _ (m) _ (row) (HS1.out _ XBB.out) (by rfl) (by rfl) (by unfold maxLen; omega) (by omega) XZB.out ?_); intro B1 d1 N1 w1 hN ho1 hg1 hl1; obtain rfl : (m) = N1 := (by omega); clear hN; have hb1 := Bl.row XBB.out (Nat.le_refl _) XOB.out hg1; have hs1 := hb1.le; clear hl1; have hI1 := XIB.out.grown hg1 XNB.out) | ((refine step_append_at (f := Cargo.cs) (by rfl) _ _ _ (by rfl) wr.heap.size 50 i0 _ 3 24 Try.underlying28 hi0 hz0 hz1 hz2 rfl (by omega) Cargo.cs_len Cargo.one _ 0 [] XOC.out _ (m) _ (row) (HS1.out _ XBC.out) (by rfl) (by rfl) (by unfold maxLen; omega) (by omega) XZC.out ?_); intro B1 d1 N1 w1 hN ho1 hg1 hl1; obtain rfl : (m) = N1 := (by omega); clear hN; have hb1 := Bl.row XBC.out (Nat.le_refl _) XOC.out hg1; have hs1 := hb1.le; clear hl1; have hI1 := XIC.out.grown hg1 XNC.out) | ((refine step_append_at (f := Cargo.cs) (by rfl) _ _ _ (by rfl) wr.heap.size 50 i0 _ 3 24 Try.underlying28 hi0 hz0 hz1 hz2 rfl (by omega) Cargo.cs_len Cargo.one _ (m) ([] ++ (row)) (World.ownsRow.alloc ho1 _) _ 1 _ [(⟨xa, xb, xc⟩ : Cargo)] (slOneG Cargo.cs 3 Cargo.cs_len w1 50 (⟨xa, xb, xc⟩ : Cargo) _ rfl _ rfl) (by rfl) (by rfl) (by unfold maxLen; omega) (by omega) (by simp; omega) ?_); intro CX dX NX wX hN hoX hgX hl2; obtain rfl : (m) + 1 = NX := (by omega); clear hN; have hbx := Bl.row (hb1.alloc _) (Nat.le_refl _) (World.ownsRow.alloc ho1 _) hgX; clear hl2; have HOX := Lib.hid hoX; clear hoX) | ((refine step_append_at (f := Cargo.cs) (by rfl) _ _ _ (by rfl) wr.heap.size 50 i0 _ 3 24 Try.underlying28 hi0 hz0 hz1 hz2 rfl (by omega) Cargo.cs_len Cargo.one _ (m) ([] ++ (row)) ho1 _ 1 _ [(⟨xa, xb, xc⟩ : Cargo)] hI1 (by rfl) (by rfl) (by unfold maxLen; omega) (by omega) hs1 ?_); intro CX dX NX wX hN hoX hgX hl2; obtain rfl : (m) + 1 = NX := (by omega); clear hN; have hbx := Bl.row hb1 (Nat.le_refl _) ho1 hgX; clear hl2; have HOX := Lib.hid hoX; clear hoX))
        all_goals
          have HOX : Hid (wX.ownsRow bs 50 3 (.slice CX (m + 1) dX) (m + 1) ((row ++ [(⟨xa, xb, xc⟩ : Cargo)]).flatMap Cargo.cs)) := own_mono HOX.out (by omega)
          have HOR := Lib.hid (hbx.own HOR.out)
          have HT1 : Hid (∀ V, Bl wX V → Sl Cargo.cs 3 V (some ⟨b1, o1, none⟩) k (rest.take k)) := fun V hV => HT1.out V (hbx.trans hV)
          have HT2 : Hid (∀ V, Bl wX V → Sl Cargo.cs 3 V (if pd = k + 1 then (some ⟨b1, o1, none⟩ : Option Addr) else (some ⟨b1, o1, none⟩ : Option Addr).map fun a => a.add ((k + 1) * 3)) (p - (k + 1)) (rest.drop (k + 1))) := fun V hV => HT2.out V (hbx.trans hV)
          have hbw := hb.trans hbx
          clear F0 F1 F2 g1 g2 g3 XBA XBB XBC XZA XZB XZC XOA XOB XOC XIB XIC XNB XNC HS1
          have hleX := hbw.le
          have hpn : p - (k + 1) ≤ 6 := by omega
          have HKP : Hid (k + (p - (k + 1)) = f) := by show _ = _; have := HPF.out; omega
          have kw : IntKind.i64.wrap ((k : Int) + 1) = (k : Int) + 1 := IntWalk.i64_in _ (by omega)
          have HT3 : Hid (∀ V, Bl wX V → Sl Cargo.cs 3 V (if pd = k + 1 then (some ⟨b1, o1, none⟩ : Option Addr) else (some ⟨b1, o1 + (k + 1) * 3, none⟩ : Option Addr)) (p - (k + 1)) (rest.drop (k + 1))) := fun V hV => by
            have h9 := HT2.out V hV
            have e9 : (some ⟨b1, o1, none⟩ : Option Addr).map (fun a => a.add ((k + 1) * 3)) = (some ⟨b1, o1 + (k + 1) * 3, none⟩ : Option Addr) := by simp [Addr.add_lit]
            rw [e9] at h9
            exact h9
          clear HT2
          go_wp2_with fail
          have XBA : Hid (Bl wX ((wX.alloc (.cells #[] 50)).drew)) := ((Bl.refl wX).alloc _).drew
          have XZA := Lib.hid XBA.out.le
          have XOA : Hid (World.ownsRow ((wX.alloc (.cells #[] 50)).drew) wX.heap.size 50 3 (.slice (some ⟨wX.heap.size, 0, none⟩) 0 0) 0 (([] : List Cargo).flatMap Cargo.cs)) := (made_at Cargo.cs 3 wX 50 wX.heap.size _ rfl (Nat.le_refl _)).drew
          obtain ⟨i0, hi0, hz0, hz1, hz2⟩ := info_parts infoCargo
          go_region_held3 (fun _ => True) (trivial) (first | ((refine step_append_at (f := Cargo.cs) (by rfl) _ _ _ (by rfl) wX.heap.size 50 i0 _ 3 24 Try.underlying28 hi0 hz0 hz1 hz2 rfl (by omega) Cargo.cs_len Cargo.one _ 0 [] XOA.out _ (k) _ (rest.take k) (HT1.out _ XBA.out) (by rfl) (by rfl) (by unfold maxLen; omega) (by omega) XZA.out ?_); intro B1 d1 N1 w1 hN ho1 hg1 hl1; obtain rfl : (k) = N1 := (by omega); clear hN; have hb1 := Bl.row XBA.out (Nat.le_refl _) XOA.out hg1; have hs1 := hb1.le; clear hl1) | ((refine step_append_at (f := Cargo.cs) (by rfl) _ _ _ (by rfl) wX.heap.size 50 i0 _ 3 24 Try.underlying28 hi0 hz0 hz1 hz2 rfl (by omega) Cargo.cs_len Cargo.one _ (k) ([] ++ (rest.take k)) ho1 _ (p - (k + 1)) _ (rest.drop (k + 1)) (HT3.out _ hb1) (by rfl) (by rfl) (by unfold maxLen; omega) (by omega) hs1 ?_); intro C2 e2 N2 w2 hN ho2 hg2 hl2; obtain rfl : (k) + (p - (k + 1)) = N2 := (by omega); clear hN; have hb2 := Bl.row hb1 (Nat.le_refl _) ho1 hg2; have hcap2 := own_cap ho2; have HO2 := Lib.hid ho2; clear hl2 ho2) | (go_at_call 73; have hl2 : (([] ++ rest.take k) ++ rest.drop (k + 1)).length = k + (p - (k + 1)) := (by rw [List.length_append, List.length_append, List.length_take, List.length_drop, HRL.out]; simp; omega); have hs2 := Sl.of_own Cargo.cs_len HO2.out hl2 (by omega); rw [List.nil_append, HER.out] at hs2; have hz2 := hb2.le; (with_reducible refine (HIH.out CX dX C2 (k + (p - (k + 1))) e2 w2 (hb2.own HOX.out) hs2 hcap2 (by omega)).mono ?_); rintro e w6 ⟨C6, m6, c6, rfl, hb6, ho6⟩; have HO6 := Lib.hid ho6; clear ho6; dsimp only))
          all_goals
            have HOR := Lib.hid ((hb2.trans hb6).own HOR.out)
            have hbw6 := hbw.trans (hb2.trans hb6)
            clear hs2 hl2 HOX HT1 HT3 HO2 XBA XZA XOA HIH hb2 hb6 ho1 hg1 hs1 hb1 hg2
            generalize (if pd = k + 1 then (some ⟨b1, o1, none⟩ : Option Addr) else (some ⟨b1, o1 + (k + 1) * 3, none⟩ : Option Addr)) = RA
            generalize contCK f row rest k = s at *
            generalize contC f (row ++ [(⟨xa, xb, xc⟩ : Cargo)]) (rest.erase ⟨xa, xb, xc⟩) = r at *
            obtain ⟨sb, sz⟩ := s
            obtain ⟨rb, rz⟩ := r
            obtain ⟨hr0, hr1⟩ := HXP.out
            simp only at hr0 hr1
            by_cases h1 : sz < 0
            · have HN2 := Lib.hid (HN.out.trans (mrg_yes (s := (sb, sz)) (r := (rb, rz)) hr0 (.inl h1)))
              go_wp2_with fail
              first | exact ⟨⟨k + 1, C6, m6, c6, by omega, by go_num, rfl, by rw [HN2.out], hbw6, by rw [HN2.out]; exact HO6⟩, by simp [intOf]; omega⟩ | (refine ⟨?_, by simp [intOf]; omega⟩; (repeat apply Exists.intro); exact ⟨⟨k + 1, C6, m6, c6, by omega, by go_num, rfl, by rw [HN2.out], hbw6, by rw [HN2.out]; exact HO6⟩, rfl⟩)
            by_cases h2 : rz < sz
            · have HN2 := Lib.hid (HN.out.trans (mrg_yes (s := (sb, sz)) (r := (rb, rz)) hr0 (.inr h2)))
              go_wp2_with fail
              first | exact ⟨⟨k + 1, C6, m6, c6, by omega, by go_num, rfl, by rw [HN2.out], hbw6, by rw [HN2.out]; exact HO6⟩, by simp [intOf]; omega⟩ | (refine ⟨?_, by simp [intOf]; omega⟩; (repeat apply Exists.intro); exact ⟨⟨k + 1, C6, m6, c6, by omega, by go_num, rfl, by rw [HN2.out], hbw6, by rw [HN2.out]; exact HO6⟩, rfl⟩)
            · have HN2 := Lib.hid (HN.out.trans (mrg_no (s := (sb, sz)) (r := (rb, rz)) (by simp only; omega)))
              go_wp2_with fail
              first | exact ⟨⟨k + 1, Cb, mb, cb, by omega, by go_num, rfl, by rw [HN2.out], hbw6, by rw [HN2.out]; exact HOR⟩, by simp [intOf]; omega⟩ | (refine ⟨?_, by simp [intOf]; omega⟩; (repeat apply Exists.intro); exact ⟨⟨k + 1, Cb, mb, cb, by omega, by go_num, rfl, by rw [HN2.out], hbw6, by rw [HN2.out]; exact HOR⟩, rfl⟩)
      · have e : k = p := by omega
        subst e
        go_wp2_with fail
        go_ret2
        exact ⟨Cb, mb, cb, by rw [HE.out]; rfl, hb, by rw [HE.out]; exact HOR.out⟩
end Go.Proofs.Ytkeaobjcfkmjmaa
