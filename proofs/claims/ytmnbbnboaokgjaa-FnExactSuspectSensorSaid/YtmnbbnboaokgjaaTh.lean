/- Slices of slices of integers: sizes, copies. -/
import Derived.Test.YtmnbbnboaokgjaaTg
import Derived.Test.YtmnbbnboaokgjaaC6
namespace Go.Proofs.Ytmnbbnboaokgjaa
open Go.RowKit
set_option maxHeartbeats 400000 in
theorem szIntS_any (A : Option Addr) (n c : Nat) (m : Int) (w : World) (hn : n ≤ 9223372036854775807) (h0 : 0 ≤ m) (h1 : m ≤ 1048576) :
    Calls Try.prog 63 #[.slice A n c, .int .i64 m] w fun e w' => e = .returned (.int .i64 (if m < n then -1 else m - n)) ∧ Bl w w' := by
  by_cases h : m < n
  · have h' : m - (n : Int) < 0 := by omega
    simp only [h, if_true]
    go_enter Try.func63, Try.ntmps63
    go_wp2
    go_ret
    exact ⟨rfl, Bl.refl _⟩
  · have h' : ¬ m - (n : Int) < 0 := by omega
    simp only [h, if_false]
    go_enter Try.func63, Try.ntmps63
    go_wp2
    go_ret
    exact ⟨rfl, Bl.refl _⟩
set_option maxHeartbeats 1000000 in
theorem szIntSS_any (A : Option Addr) (n c : Nat) (rs : List Rw) (ls : List (List Int)) (w : World) (h : Tb w A n rs ls) :
    Calls Try.prog 50 #[.slice A n c, .int .i64 1048576] w fun e w' => (∃ r : Int, e = .returned (.int .i64 r) ∧ -1 ≤ r ∧ r ≤ 1048576 ∧ (r < 0 ∨ (n ≤ 1048576 ∧ ∀ (i : Nat) (l : List Int), ls[i]? = some l → l.length ≤ 1048576))) ∧ Bl w w' := by
  have bn := h.1.le
  have HL := Lib.hid h.len
  by_cases hs : (1048576 : Int) < n
  · have h' : 1048576 - (n : Int) < 0 := by omega
    go_enter Try.func50, Try.ntmps50
    go_wp2_with fail
    go_ret
    exact ⟨⟨_, rfl, by omega, by omega, .inl (by omega)⟩, Bl.refl _⟩
  have h' : ¬ 1048576 - (n : Int) < 0 := by omega
  go_enter Try.func50, Try.ntmps50
  go_wp2_with fail
  go_loopw [1, 5] (fun u i wr => ∃ (k : Nat) (r : Int), k ≤ n ∧ i = .int .i64 k ∧ u = .int .i64 r ∧ 0 ≤ r ∧ r ≤ 1048576 ∧ Bl w wr ∧ Hid (∀ (i : Nat) (l : List Int), i < k → ls[i]? = some l → l.length ≤ 1048576)) (fun _ i _ => n - (intOf i).toNat)
  case atStart => exact ⟨0, _, Nat.zero_le _, rfl, rfl, by omega, by omega, Bl.refl _, fun i l hi => absurd hi (by omega)⟩
  case round =>
    obtain ⟨k, r, hk, rfl, rfl, r0, r1, hb, HA⟩ := hrel
    by_cases hlt : k < n
    · obtain ⟨b, o, q, l, rfl, _, el, c1, s1, _⟩ := h.at_ hlt
      have g1 := c1 _ hb
      have HS := Lib.hid (s1 _ hb)
      have EL := Lib.hid el
      obtain ⟨qa, qn, qc⟩ := q
      simp only at g1 HS
      have hqn : l.length = qn := HS.out.1
      have HQ := Lib.hid hqn
      have H1 := Lib.hid (fun W => szIntS_any qa qn qc r W HS.out.le r0 r1)
      clear c1 s1 el hqn
      by_cases hq : r < (qn : Int)
      · rw [if_pos hq] at H1
        go_wp2_with fail
        refine (H1.out _).mono ?_
        rintro e w' ⟨rfl, hbn⟩
        go_wp2_with fail
        go_ret
        exact ⟨⟨_, rfl, by omega, by omega, .inl (by omega)⟩, hb.trans hbn⟩
      · rw [if_neg hq] at H1
        have HA2 : Hid (∀ (i : Nat) (l : List Int), i < k + 1 → ls[i]? = some l → l.length ≤ 1048576) := fun i l' hi hl => by
          by_cases e : i = k
          · subst e; rw [EL.out] at hl; obtain rfl := Option.some.inj hl; have := HQ.out; omega
          · exact HA.out i l' (by omega) hl
        have hq2 : ¬ r - (qn : Int) < 0 := by omega
        go_wp2_with fail
        refine (H1.out _).mono ?_
        rintro e w' ⟨rfl, hbn⟩
        have hb2 := hb.trans hbn
        clear hb hbn HA HS g1 H1
        go_wp2_with fail
        first | exact ⟨⟨k + 1, r - (qn : Int), by omega, by go_num, rfl, by omega, by omega, hb2, HA2⟩, by simp [intOf]; omega⟩ | (refine ⟨?_, by simp [intOf]; omega⟩; (repeat apply Exists.intro); exact ⟨⟨k + 1, r - (qn : Int), by omega, by go_num, rfl, by omega, by omega, hb2, HA2⟩, rfl⟩)
    · have e : k = n := by omega
      subst e
      go_wp2_with fail
      go_ret
      exact ⟨⟨_, rfl, by omega, by omega, .inr ⟨by omega, fun i l hl => HA.out i l (by have := (List.getElem?_eq_some_iff.1 hl).1; rw [HL.out] at this; exact this) hl⟩⟩, hb⟩
theorem infoRows : (Try.prog.info? 33).map (fun i => (i.zero, i.size, i.bytes)) = some (some (.slice none 0 0), 1, 24) := by kernel_rfl
theorem own_oth {w : World} {B E k n g j : Nat} {v u : Value} {xs : List Value} (ho : w.ownsRow B E k v n xs) (hg : g < B) : (w.setCell ⟨g, j, none⟩ u).ownsRow B E k v n xs :=
  World.ownsRow.kept ho (grown_set (World.grownBy.refl _ _) j u) (by
    cases e : v.ownBlock with
    | none => exact .inl rfl
    | some q => exact .inr (fun e2 => by have h1 := (World.ownsRow.lt ho q e).1; obtain rfl := Option.some.inj e2; omega))
theorem crw_get {rs : List Rw} {k : Nat} {r : Rw} (h : rs[k]? = some r) : (rs.flatMap crw)[k]? = some (.slice r.a r.n r.c) := by
  have := flat_get crw 1 crw_len rs k r h 0 (by omega)
  rwa [Nat.mul_one, Nat.add_zero] at this
set_option maxHeartbeats 2000000 in
theorem toIntSS_any (A : Option Addr) (n c : Nat) (rs : List Rw) (ls : List (List Int)) (w : World) (h : Tb w A n rs ls) (hn : n ≤ 1048576) (hl : ∀ (i : Nat) (l : List Int), ls[i]? = some l → l.length ≤ 1048576) :
    Calls Try.prog 52 #[.slice A n c] w fun e w' => ∃ (B : Option Addr) (d : Nat) (rt : List Rw), e = .returned (.slice B n d) ∧ Tb w' B n rt ls ∧ n ≤ d ∧ Bl w w' := by
  obtain ⟨i0, hi, hz0, hz1, hz2⟩ := info_parts infoRows
  have HL := Lib.hid h.len
  have HN := Lib.hid hl
  clear hl
  go_enter Try.func52, Try.ntmps52
  go_wp2_with (at_make; refine wpList_make_full _ rfl _ _ 68 rfl w.heap.size 33 i0 _ 1 Try.underlying68 hi hz0 hz1 _ _ _ _ n rfl rfl rfl rfl (by rw [hz2]; omega) (by unfold maxLen; omega) (Nat.le_refl _) ?_; intro w1 hown hgrow)
  have hb1 : Bl w w1 := (Bl.refl w).grown hgrow (fun k hk => by cases hk)
  clear hgrow hi hz0 hz1 hz2
  go_wp2
  go_loopw [4] (fun i wr => ∃ (k : Nat) (rt : List Rw), k ≤ n ∧ i = .int .i64 k ∧ Bl w wr ∧ Hid (rt.length = k) ∧ (∃ xs, wr.ownsRow w.heap.size 33 1 (.slice (some ⟨w.heap.size, 0, none⟩) n n) n xs ∧ Hid (Same k xs (rt.flatMap crw))) ∧ Hid (∀ (i : Nat) (r : Rw) (l : List Int), rt[i]? = some r → ls[i]? = some l → wr.ownsRow (w.heap.size + 1) 3 1 (.slice r.a r.n r.c) r.n (l.flatMap ci) ∧ l.length = r.n)) (fun i _ => n - (intOf i).toNat)
  case atStart => exact ⟨0, [], Nat.zero_le _, rfl, hb1, rfl, ⟨_, hown, Same.zero _ _⟩, fun i r l e => by simp at e⟩
  case round =>
    obtain ⟨k, rt, hk, rfl, hbl, HRT, ⟨xs, hown', HSM⟩, HR⟩ := hrel
    clear hown hb1
    by_cases hlt : k < n
    · obtain ⟨b, o, q, l, rfl, _, el, c1, s1, _⟩ := h.at_ hlt
      have g1 := c1 _ hbl
      have HS := Lib.hid (s1 _ hbl)
      have EL := Lib.hid el
      obtain ⟨qa, qn, qc⟩ := q
      simp only at g1 HS
      have hqn : l.length = qn := HS.out.1
      have hq1 := HN.out _ _ el
      have HQ := Lib.hid hqn
      have hz : w.heap.size < wr.heap.size := ((own_lt hown').out _ rfl).2
      clear c1 s1 el
      go_wp2_with fail
      refine (toIntS_any qa qn qc l _ HS.out (by omega)).mono ?_
      rintro e w2 ⟨B2, d2, rfl, o2, hbn⟩
      have o2 := Lib.hid (own_mono o2 (show w.heap.size + 1 ≤ wr.heap.size by omega))
      have hoW := hbn.own hown'
      have fz := World.ownsRow.frozenAt hoW
      obtain ⟨v0, q0⟩ := own_some hoW (j := k) (by omega)
      have hb2 := hbl.trans hbn
      have HR2 : Hid (∀ (i : Nat) (r : Rw) (l : List Int), rt[i]? = some r → ls[i]? = some l → w2.ownsRow (w.heap.size + 1) 3 1 (.slice r.a r.n r.c) r.n (l.flatMap ci) ∧ l.length = r.n) := fun i r l e1 e2 => ⟨hbn.own (HR.out i r l e1 e2).1, (HR.out i r l e1 e2).2⟩
      have hxl := hoW.1
      clear hbn hbl hown' HR HS g1
      go_wp2_with fail
      have HRF : Hid (∀ (i : Nat) (r : Rw) (l : List Int), (rt ++ [(⟨B2, qn, d2⟩ : Rw)])[i]? = some r → ls[i]? = some l → (w2.setCell ⟨w.heap.size, k, none⟩ (.slice B2 qn d2)).ownsRow (w.heap.size + 1) 3 1 (.slice r.a r.n r.c) r.n (l.flatMap ci) ∧ l.length = r.n) := fun i r l' e1 e2 => by
        by_cases e : i < k
        · rw [List.getElem?_append_left (by rw [HRT.out]; exact e)] at e1
          exact ⟨own_oth (HR2.out i r l' e1 e2).1 (by omega), (HR2.out i r l' e1 e2).2⟩
        · have hi9 : i = k := by
            have := (List.getElem?_eq_some_iff.1 e1).1
            rw [List.length_append, HRT.out] at this
            simp at this; omega
          subst hi9
          rw [List.getElem?_append_right (by rw [HRT.out]; exact Nat.le_refl _), HRT.out] at e1
          simp at e1
          subst e1
          rw [EL.out] at e2
          obtain rfl := Option.some.inj e2
          exact ⟨own_oth o2.out (by omega), HQ.out⟩
      have HSF : Hid (Same (k + 1) (xs.set k (.slice B2 qn d2)) ((rt ++ [(⟨B2, qn, d2⟩ : Rw)]).flatMap crw)) := by
        have hfl : (rt.flatMap crw).length = k := by rw [flat_len _ 1 crw_len, HRT.out, Nat.mul_one]
        have h1 : Same k xs ((rt ++ [(⟨B2, qn, d2⟩ : Rw)]).flatMap crw) := fun j hj => by
          rw [List.flatMap_append, List.getElem?_append_left (by rw [hfl]; exact hj)]
          exact HSM.out j hj
        refine h1.step (by rw [hxl]; omega) ?_
        rw [List.flatMap_append, List.getElem?_append_right (by rw [hfl]; exact Nat.le_refl _), hfl]
        simp [crw]
      have HLF : Hid ((rt ++ [(⟨B2, qn, d2⟩ : Rw)]).length = k + 1) := by show _ = _; rw [List.length_append, HRT.out]; rfl
      first | exact ⟨⟨k + 1, rt ++ [(⟨B2, qn, d2⟩ : Rw)], by omega, by go_num, hb2.setCell (Nat.le_refl _) _, HLF, ⟨_, own_set hoW k _, HSF⟩, HRF⟩, by simp [intOf]; omega⟩ | (refine ⟨?_, by simp [intOf]; omega⟩; (repeat apply Exists.intro); exact ⟨⟨k + 1, rt ++ [(⟨B2, qn, d2⟩ : Rw)], by omega, by go_num, hb2.setCell (Nat.le_refl _) _, HLF, ⟨_, own_set hoW k _, HSF⟩, HRF⟩, rfl⟩)
    · have e : k = n := by omega
      subst e
      go_wp2_with fail
      go_ret
      have hxs : xs = rt.flatMap crw := Same.all HSM.out (by rw [hown'.1, Nat.mul_one]) (by rw [flat_len _ 1 crw_len, HRT.out, Nat.mul_one])
      rw [hxs] at hown'
      refine ⟨_, _, rt, rfl, ⟨Sl.of_own crw_len hown' HRT.out (by omega), by rw [HRT.out, HL.out], fun i r l e1 e2 => ?_⟩, Nat.le_refl _, hbl⟩
      obtain ⟨h1, h2⟩ := HR.out i r l e1 e2
      exact ⟨Sl.of_own ci_len h1 h2 (by have := HN.out i l e2; omega), own_cap h1⟩
end Go.Proofs.Ytmnbbnboaokgjaa
