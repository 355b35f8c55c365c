/- Slices of slices of integers that are read. -/
import Derived.Test.YtkeaobjcfkmjmaaHInt
import Derived.Test.YtkeaobjcfkmjmaaBase3
namespace Go.Proofs.Ytkeaobjcfkmjmaa
open Go.RowKit
/-- A row's header. -/
structure Rw where
  a : Option Addr
  n : Nat
  c : Nat
def crw (r : Rw) : List Value := [.slice r.a r.n r.c]
theorem crw_len (r : Rw) : (crw r).length = 1 := rfl
theorem crw_one (r : Rw) : ∀ u ∈ crw r, u.oneCell' = true := by intro u hu; simp [crw] at hu; subst hu; rfl
/-- The slice of slices reads as a list of lists. -/
def Tb (w : World) (A : Option Addr) (n : Nat) (rs : List Rw) (ls : List (List Int)) : Prop :=
  Sl crw 1 w A n rs ∧ rs.length = ls.length ∧ ∀ (i : Nat) (r : Rw) (l : List Int), rs[i]? = some r → ls[i]? = some l → Sl ci 1 w r.a r.n l ∧ r.n ≤ r.c
section
variable {w w' : World} {A : Option Addr} {n : Nat} {rs : List Rw} {ls : List (List Int)}
theorem Tb.bl (h : Tb w A n rs ls) (hb : Bl w w') : Tb w' A n rs ls := ⟨h.1.bl hb, h.2.1, fun i r l e1 e2 => ⟨(h.2.2 i r l e1 e2).1.bl hb, (h.2.2 i r l e1 e2).2⟩⟩
theorem Tb.drew (h : Tb w A n rs ls) : Tb w.drew A n rs ls := h
theorem Tb.len (h : Tb w A n rs ls) : ls.length = n := h.2.1.symm.trans h.1.1
theorem Tb.at_ (h : Tb w A n rs ls) {i : Nat} (hi : i < n) : ∃ (b o : Nat) (r : Rw) (l : List Int), A = some ⟨b, o, none⟩ ∧ rs[i]? = some r ∧ ls[i]? = some l ∧ (∀ W, Bl w W → W.cell? ⟨b, o + i, none⟩ = some (.slice r.a r.n r.c)) ∧ (∀ W, Bl w W → Sl ci 1 W r.a r.n l) ∧ r.n ≤ r.c := by
  obtain ⟨b, o, r, e, hr, hc⟩ := h.1.at_ hi
  have h2 : i < ls.length := by rw [h.len]; exact hi
  have hl : ls[i]? = some ls[i] := List.getElem?_eq_getElem h2
  obtain ⟨h3, h4⟩ := h.2.2 i r _ hr hl
  refine ⟨b, o, r, ls[i], e, hr, hl, Bl.all ?_, fun W hW => h3.bl hW, h4⟩
  have := hc 0 _ rfl
  rwa [Nat.mul_one, Nat.add_zero] at this
end
set_option maxHeartbeats 1000000 in
theorem eqIntSS_any (A B : Option Addr) (n m c d : Nat) (rs rt : List Rw) (l r : List (List Int)) (w : World) (ha : Tb w A n rs l) (hr : Tb w B m rt r) :
    Calls Try.prog 44 #[.slice A n c, .slice B m d] w fun e w' => e = .returned (.bool (eqB l r)) ∧ Bl w w' := by
  have bn := ha.1.le
  have bm := hr.1.le
  by_cases hnm : n = m
  case neg =>
    have h1 : ((n : Int) == m) = false := by simp; omega
    have h2 : ((n : Int) != m) = true := by simp; omega
    have h3 : eqB l r = false := eqB_no (by rintro rfl; exact hnm (ha.len.symm.trans hr.len))
    have H3 := Lib.hid h3; clear h3
    go_enter Try.func44, Try.ntmps44
    go_wp2
    go_ret
    exact ⟨by rw [H3.out]; rfl, Bl.refl _⟩
  subst hnm
  have HA := Lib.hid ha.len
  have HB := Lib.hid hr.len
  go_enter Try.func44, Try.ntmps44
  go_wp2
  go_loopw [5] (fun i wr => ∃ k : Nat, k ≤ n ∧ i = .int .i64 k ∧ Bl w wr ∧ Hid (l.take k = r.take k)) (fun i _ => n - (intOf i).toNat)
  case atStart => exact ⟨0, Nat.zero_le _, rfl, Bl.refl _, rfl⟩
  case round =>
    obtain ⟨k, hk, rfl, hbl, he⟩ := hrel
    by_cases hlt : k < n
    · obtain ⟨b1, o1, r1, p1, rfl, _, e1, c11, s1, _⟩ := ha.at_ hlt
      obtain ⟨b2, o2, r2, p2, rfl, _, e2, c21, s2, _⟩ := hr.at_ hlt
      have E1 := Lib.hid e1; clear e1
      have E2 := Lib.hid e2; clear e2
      have HQ := Lib.hid (fun W hW => eqIntS_any r1.a r2.a r1.n r2.n r1.c r2.c p1 p2 W (s1 W hW) (s2 W hW))
      by_cases hp : p1 = p2
      · have hd : eqB p1 p2 = true := eqB_yes hp
        have hrr : Hid (l.take (k + 1) = r.take (k + 1)) := by
          show l.take (k + 1) = r.take (k + 1)
          rw [List.take_add_one, List.take_add_one, he.out, E1.out, E2.out, hp]
        clear hp
        rw [hd] at HQ
        clear hd
        go_wp2_with fail
        refine region_bl (by kernel_rfl) (by kernel_rfl) hbl ?_
        repeat' (first | go_big_quiet_skip | (go_big_quiet_want; go_simp; (try go_bits); first | (refine ⟨_, fun _ _ => rfl, ?_⟩; go_big_quiet_on) | (apply Exists.intro; (with_reducible refine ⟨fun W hW => ret_bl hW (HQ.out W hW), ?_⟩); go_big_quiet_on) | (apply Exists.intro; refine ⟨fun W hW => ?_, ?_⟩; (· go_simp; (try go_bits); rfl); go_big_quiet_on)))
        apply wpQuiet_nil
        intro W hb
        go_wp2_with fail
        first | exact ⟨⟨k + 1, by omega, by go_num, hb, hrr⟩, by simp [intOf]; omega⟩ | (refine ⟨?_, by simp [intOf]; omega⟩; (repeat apply Exists.intro); exact ⟨⟨k + 1, by omega, by go_num, hb, hrr⟩, rfl⟩)
      · have hd : eqB p1 p2 = false := eqB_no hp
        have hfin : eqB l r = false := eqB_no (by
          intro h; apply hp
          have := E1.out; rw [h, E2.out] at this; exact (Option.some.inj this).symm)
        have HF := Lib.hid hfin; clear hfin
        clear hp
        rw [hd] at HQ
        clear hd
        go_wp2_with fail
        refine region_bl (by kernel_rfl) (by kernel_rfl) hbl ?_
        repeat' (first | go_big_quiet_skip | (go_big_quiet_want; go_simp; (try go_bits); first | (refine ⟨_, fun _ _ => rfl, ?_⟩; go_big_quiet_on) | (apply Exists.intro; (with_reducible refine ⟨fun W hW => ret_bl hW (HQ.out W hW), ?_⟩); go_big_quiet_on) | (apply Exists.intro; refine ⟨fun W hW => ?_, ?_⟩; (· go_simp; (try go_bits); rfl); go_big_quiet_on)))
        apply wpQuiet_nil
        intro W hb
        go_wp2_with fail
        go_ret
        exact ⟨by rw [HF.out]; rfl, hb⟩
    · have e : k = n := by omega
      subst e
      have hfin : eqB l r = true := eqB_yes (by
        have := he.out
        rw [List.take_of_length_le (by rw [HA.out]; exact Nat.le_refl _), List.take_of_length_le (by rw [HB.out]; exact Nat.le_refl _)] at this
        exact this)
      have HF := Lib.hid hfin; clear hfin
      go_wp2_with fail
      go_ret
      exact ⟨by rw [HF.out]; rfl, hbl⟩
set_option maxHeartbeats 1000000 in
theorem rTable_any (A B : Option Addr) (n m c d : Nat) (rs rt : List Rw) (l r : List (List Int)) (w : World) (ha : Tb w A n rs l) (hr : Tb w B m rt r) :
    Calls Try.prog 50 #[.slice A n c, .slice B m d] w fun e w' => e = .returned (.bool (eqB l r)) ∧ Bl w w' := by
  have bn := ha.1.le
  have bm := hr.1.le
  by_cases hnm : n = m
  case neg =>
    have h1 : ((n : Int) == m) = false := by simp; omega
    have h2 : ((n : Int) != m) = true := by simp; omega
    have h3 : eqB l r = false := eqB_no (by rintro rfl; exact hnm (ha.len.symm.trans hr.len))
    have H3 := Lib.hid h3; clear h3
    go_enter Try.func50, Try.ntmps50
    go_wp2
    go_ret
    exact ⟨by rw [H3.out]; rfl, Bl.refl _⟩
  subst hnm
  have HA := Lib.hid ha.len
  have HB := Lib.hid hr.len
  go_enter Try.func50, Try.ntmps50
  go_wp2
  go_loopw [5] (fun i wr => ∃ k : Nat, k ≤ n ∧ i = .int .i64 k ∧ Bl w wr ∧ Hid (l.take k = r.take k)) (fun i _ => n - (intOf i).toNat)
  case atStart => exact ⟨0, Nat.zero_le _, rfl, Bl.refl _, rfl⟩
  case round =>
    obtain ⟨k, hk, rfl, hbl, he⟩ := hrel
    by_cases hlt : k < n
    · obtain ⟨b1, o1, r1, p1, rfl, _, e1, c11, s1, _⟩ := ha.at_ hlt
      obtain ⟨b2, o2, r2, p2, rfl, _, e2, c21, s2, _⟩ := hr.at_ hlt
      have E1 := Lib.hid e1; clear e1
      have E2 := Lib.hid e2; clear e2
      have HQ := Lib.hid (fun W hW => rInts_any r1.a r2.a r1.n r2.n r1.c r2.c p1 p2 W (s1 W hW) (s2 W hW))
      by_cases hp : p1 = p2
      · have hd : eqB p1 p2 = true := eqB_yes hp
        have hrr : Hid (l.take (k + 1) = r.take (k + 1)) := by
          show l.take (k + 1) = r.take (k + 1)
          rw [List.take_add_one, List.take_add_one, he.out, E1.out, E2.out, hp]
        clear hp
        rw [hd] at HQ
        clear hd
        go_wp2_with fail
        refine region_bl (by kernel_rfl) (by kernel_rfl) hbl ?_
        repeat' (first | go_big_quiet_skip | (go_big_quiet_want; go_simp; (try go_bits); first | (refine ⟨_, fun _ _ => rfl, ?_⟩; go_big_quiet_on) | (apply Exists.intro; (with_reducible refine ⟨fun W hW => ret_bl hW (HQ.out W hW), ?_⟩); go_big_quiet_on) | (apply Exists.intro; refine ⟨fun W hW => ?_, ?_⟩; (· go_simp; (try go_bits); rfl); go_big_quiet_on)))
        apply wpQuiet_nil
        intro W hb
        go_wp2_with fail
        first | exact ⟨⟨k + 1, by omega, by go_num, hb, hrr⟩, by simp [intOf]; omega⟩ | (refine ⟨?_, by simp [intOf]; omega⟩; (repeat apply Exists.intro); exact ⟨⟨k + 1, by omega, by go_num, hb, hrr⟩, rfl⟩)
      · have hd : eqB p1 p2 = false := eqB_no hp
        have hfin : eqB l r = false := eqB_no (by
          intro h; apply hp
          have := E1.out; rw [h, E2.out] at this; exact (Option.some.inj this).symm)
        have HF := Lib.hid hfin; clear hfin
        clear hp
        rw [hd] at HQ
        clear hd
        go_wp2_with fail
        refine region_bl (by kernel_rfl) (by kernel_rfl) hbl ?_
        repeat' (first | go_big_quiet_skip | (go_big_quiet_want; go_simp; (try go_bits); first | (refine ⟨_, fun _ _ => rfl, ?_⟩; go_big_quiet_on) | (apply Exists.intro; (with_reducible refine ⟨fun W hW => ret_bl hW (HQ.out W hW), ?_⟩); go_big_quiet_on) | (apply Exists.intro; refine ⟨fun W hW => ?_, ?_⟩; (· go_simp; (try go_bits); rfl); go_big_quiet_on)))
        apply wpQuiet_nil
        intro W hb
        go_wp2_with fail
        go_ret
        exact ⟨by rw [HF.out]; rfl, hb⟩
    · have e : k = n := by omega
      subst e
      have hfin : eqB l r = true := eqB_yes (by
        have := he.out
        rw [List.take_of_length_le (by rw [HA.out]; exact Nat.le_refl _), List.take_of_length_le (by rw [HB.out]; exact Nat.le_refl _)] at this
        exact this)
      have HF := Lib.hid hfin; clear hfin
      go_wp2_with fail
      go_ret
      exact ⟨by rw [HF.out]; rfl, hbl⟩
end Go.Proofs.Ytkeaobjcfkmjmaa
