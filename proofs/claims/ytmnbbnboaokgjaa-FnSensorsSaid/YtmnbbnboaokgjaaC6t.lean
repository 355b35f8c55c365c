/- The contracts of the functions on triples of sensors: the median, who agrees. -/
import Derived.Test.YtmnbbnboaokgjaaC6s
namespace Go.Proofs.Ytmnbbnboaokgjaa
open Go.RowKit
theorem trip_no {l : List Int} {n : Nat} (hl : l.length = n) (h : decide ((n : Int) = 3) = false) : tripOk l = false := by
  simp only [tripOk, hl]
  have : decide (n = 3) = false := by
    simp at h ⊢; omega
  rw [this]; rfl
/-- A predicate of Int handed over as a function value. -/
def PredInt (g : FuncId) (f : Int → Bool) : Prop := ∀ (p : Int) (w : World), Calls Try.prog g #[.int .i64 p] w fun e w' => e = .returned (.bool (f p)) ∧ Bl w w'
set_option maxHeartbeats 400000 in
theorem indexFuncInt_any (g : FuncId) (f : Int → Bool) (hf : PredInt g f) (heg : Enters Try.prog g) (A : Option Addr) (n c : Nat) (l : List Int) (w : World) (h : Sl ci 1 w A n l) :
    Calls Try.prog 104 #[.slice A n c, .func (.func g) #[] #[]] w fun e w' => (∃ i : Int, e = .returned (.int .i64 i) ∧ decide (0 ≤ i) = l.any f) ∧ Bl w w' := by
  have bn := h.le
  have HL := Lib.hid h.1
  have eg : ∀ args w, (callFunc g args).run Try.prog w = .ok (.enter g args) w := heg
  clear heg
  go_enter Try.func104, Try.ntmps104
  go_wp2
  go_loopw [8] (fun i wr => ∃ k : Nat, k ≤ n ∧ i = .int .i64 k ∧ Bl w wr ∧ Hid ((l.take k).any f = false)) (fun i _ => n - (intOf i).toNat)
  case atStart => exact ⟨0, Nat.zero_le _, rfl, Bl.refl _, rfl⟩
  case round =>
    obtain ⟨k, hk, rfl, hb, he⟩ := hrel
    by_cases hlt : k < n
    · obtain ⟨b1, o1, p1, rfl, e1, c11⟩ := h.int hlt
      have E1 := Lib.hid e1; clear e1
      have H1 := Lib.hid (fun w => hf p1 w)
      cases hv : f p1
      · go_wp2_with fail
        refine (H1.out _).mono ?_
        rintro e w' ⟨rfl, hbn⟩
        have hb := hb.trans hbn
        clear hbn
        simp only [hv]
        go_wp2_with fail
        first | exact ⟨⟨k + 1, by omega, by go_num, hb, by show _ = _; rw [take_one E1.out, List.any_append, he.out]; simp [hv]⟩, by simp [intOf]; omega⟩ | (refine ⟨?_, by simp [intOf]; omega⟩; (repeat apply Exists.intro); exact ⟨⟨k + 1, by omega, by go_num, hb, by show _ = _; rw [take_one E1.out, List.any_append, he.out]; simp [hv]⟩, rfl⟩)
      · go_wp2_with fail
        refine (H1.out _).mono ?_
        rintro e w' ⟨rfl, hbn⟩
        have hb := hb.trans hbn
        clear hbn
        simp only [hv]
        go_wp2_with fail
        go_ret
        exact ⟨⟨k, rfl, by rw [List.any_eq_true.2 ⟨p1, List.mem_of_getElem? E1.out, hv⟩]; simp⟩, hb⟩
    · have e : k = n := by omega
      subst e
      go_wp2_with fail
      go_ret
      exact ⟨⟨-1, rfl, by have := he.out; rw [take_all HL.out] at this; rw [this]; rfl⟩, hb⟩
set_option maxHeartbeats 400000 in
theorem containsFuncInt_any (g : FuncId) (f : Int → Bool) (hf : PredInt g f) (heg : Enters Try.prog g) (A : Option Addr) (n c : Nat) (l : List Int) (w : World) (h : Sl ci 1 w A n l) :
    Calls Try.prog 68 #[.slice A n c, .func (.func g) #[] #[]] w fun e w' => e = .returned (.bool (l.any f)) ∧ Bl w w' := by
  go_enter Try.func68, Try.ntmps68
  go_wp2_with fail
  refine (indexFuncInt_any g f hf heg A n c l _ h).mono ?_
  rintro e w' ⟨⟨i, rfl, hi⟩, hb⟩
  have HI := Lib.hid hi; clear hi
  go_wp2_with fail
  go_ret
  exact ⟨by rw [← HI.out]; rfl, hb⟩
set_option maxHeartbeats 400000 in
theorem areGaugesFn_any : PredInt 117 (fun x => !gauge x) := by
  intro x w
  have H1 := Lib.hid (fun w => isGauge_any x w)
  go_enter Try.func117, Try.ntmps117
  go_wp2_with fail
  refine (H1.out _).mono ?_
  rintro e w' ⟨rfl, rfl⟩
  go_wp2_with fail
  go_ret
  exact ⟨rfl, Bl.refl _⟩
set_option maxHeartbeats 400000 in
theorem areGauges_any (A : Option Addr) (n c : Nat) (l : List Int) (w : World) (h : Sl ci 1 w A n l) :
    Calls Try.prog 111 #[.slice A n c] w fun e w' => e = .returned (.bool (l.all gauge)) ∧ Bl w w' := by
  have HR : Hid (l.all gauge = !(l.any fun x => !gauge x)) := by show _ = _; rw [any_not]; simp
  go_enter Try.func111, Try.ntmps111
  go_wp2_with fail
  refine (containsFuncInt_any _ _ areGaugesFn_any (enters_of Try.func117 (by kernel_rfl) rfl) A n c l _ h).mono ?_
  rintro e w2 ⟨rfl, hb⟩
  go_wp2_with fail
  go_ret
  exact ⟨by rw [HR.out]; rfl, hb⟩
set_option maxHeartbeats 400000 in
theorem isTriple_any (A : Option Addr) (n c : Nat) (l : List Int) (w : World) (h : Sl ci 1 w A n l) :
    Calls Try.prog 92 #[.slice A n c] w fun e w' => e = .returned (.bool (tripOk l)) ∧ Bl w w' := by
  have bn := h.le
  have HL := Lib.hid h.1
  have H1 := Lib.hid (areGauges_any A n c l w h)
  by_cases h1 : n = 3
  · subst h1
    have HR : Hid (tripOk l = l.all gauge) := by show _ = _; rw [tripOk, HL.out]; rfl
    go_enter Try.func92, Try.ntmps92
    go_wp2_with fail
    refine H1.out.mono ?_
    rintro e w2 ⟨rfl, hb⟩
    go_wp2_with fail
    go_ret
    exact ⟨by rw [HR.out]; rfl, hb⟩
  · have h2 : decide ((n : Int) = 3) = false := by simp; omega
    have h3 : ((n : Int) == 3) = false := by simp; omega
    have HR := Lib.hid (trip_no HL.out h2)
    go_enter Try.func92, Try.ntmps92
    go_wp2_with fail
    go_ret
    exact ⟨by rw [HR.out]; rfl, Bl.refl _⟩
set_option maxHeartbeats 1000000 in
theorem l6Series_any (A : Option Addr) (n c : Nat) (l : List Int) (w : World) (h : Sl ci 1 w A n l) :
    Calls Try.prog 82 #[.slice A n c] w fun e w' => e = .returned (.bool (l.all gauge && decide (l.length ≤ 20))) ∧ Bl w w' := by
  have bn := h.le
  have HL := Lib.hid h.1
  go_enter Try.func82, Try.ntmps82
  go_wp2_with fail
  go_loopw [3] (fun i wr => ∃ k : Nat, k ≤ n ∧ i = .int .i64 k ∧ Bl w wr ∧ Hid ((l.take k).all gauge = true)) (fun i _ => n - (intOf i).toNat)
  case atStart => exact ⟨0, Nat.zero_le _, rfl, Bl.refl _, rfl⟩
  case round =>
    obtain ⟨k, hk, rfl, hb, he⟩ := hrel
    by_cases hlt : k < n
    · obtain ⟨b1, o1, x, rfl, ex, c1⟩ := h.int hlt
      have q1 := c1 _ hb
      have E1 := Lib.hid ex; clear ex c1
      have H1 := Lib.hid (fun w => same_bl (l6Level_any x w))
      have HV : Hid (gauge x = inB x 0 2000) := rfl
      cases h1 : inB x 0 2000
      · have HF : Hid ((l.all gauge && decide (l.length ≤ 20)) = false) := by show _ = _; rw [all_not E1.out (HV.out.trans h1)]; rfl
        go_wp2_with fail
        refine (H1.out _).mono ?_
        rintro e w' ⟨rfl, hbn⟩
        have hb := hb.trans hbn
        clear hbn
        simp only [h1]
        go_wp2_with fail
        go_ret
        exact ⟨by rw [HF.out]; rfl, hb⟩
      · have HN := Lib.hid (HV.out.trans h1)
        go_wp2_with fail
        refine (H1.out _).mono ?_
        rintro e w' ⟨rfl, hbn⟩
        have hb := hb.trans hbn
        clear hbn
        simp only [h1]
        go_wp2_with fail
        first | exact ⟨⟨k + 1, by omega, by go_num, hb, by show _ = _; rw [all_one gauge E1.out, he.out, HN.out]; rfl⟩, by simp [intOf]; omega⟩ | (refine ⟨?_, by simp [intOf]; omega⟩; (repeat apply Exists.intro); exact ⟨⟨k + 1, by omega, by go_num, hb, by show _ = _; rw [all_one gauge E1.out, he.out, HN.out]; rfl⟩, rfl⟩)
    · have e : k = n := by omega
      subst e
      have HT : Hid (l.all gauge = true) := by
        show _ = _
        have := he.out
        rwa [take_all HL.out] at this
      have HF : Hid ((l.all gauge && decide (l.length ≤ 20)) = decide ((k : Int) ≤ 20)) := by
        show _ = _
        rw [HT.out, HL.out, Bool.true_and]
        exact decide_eq_decide.2 (by omega)
      go_wp2_with fail
      go_ret
      exact ⟨by rw [HF.out]; rfl, hb⟩
set_option maxHeartbeats 400000 in
theorem l6Triple_any (A : Option Addr) (n c : Nat) (l : List Int) (w : World) (h : Sl ci 1 w A n l) :
    Calls Try.prog 90 #[.slice A n c] w fun e w' => e = .returned (.bool (tripOk l)) ∧ Bl w w' := by
  have bn := h.le
  have HL := Lib.hid h.1
  have H1 := Lib.hid (l6Series_any A n c l w h)
  by_cases h1 : n = 3
  · subst h1
    have HR : Hid (tripOk l = (l.all gauge && decide (l.length ≤ 20))) := by show _ = _; rw [tripOk, HL.out]; simp
    go_enter Try.func90, Try.ntmps90
    go_wp2_with fail
    refine H1.out.mono ?_
    rintro e w2 ⟨rfl, hb⟩
    go_wp2_with fail
    go_ret
    exact ⟨by rw [HR.out]; rfl, hb⟩
  · have h2 : decide ((n : Int) = 3) = false := by simp; omega
    have h3 : ((n : Int) == 3) = false := by simp; omega
    have HR := Lib.hid (trip_no HL.out h2)
    go_enter Try.func90, Try.ntmps90
    go_wp2_with fail
    go_ret
    exact ⟨by rw [HR.out]; rfl, Bl.refl _⟩
theorem med_at {l : List Int} (h : l.length = 3) : (sortG ltZ l 3)[1]? = some (medL l) := by
  match l, h with
  | [a, b, c], _ => exact med_sort a b c
set_option maxHeartbeats 1000000 in
theorem medianOf_any (A : Option Addr) (c : Nat) (l : List Int) (w : World) (h : Sl ci 1 w A 3 l) :
    Calls Try.prog 93 #[.slice A 3 c] w fun e w' => e = .returned (.int .i64 (medL l)) ∧ Bl w w' := by
  have HL := Lib.hid h.1
  have HM := Lib.hid (med_at HL.out)
  have H1 := Lib.hid (copyInts_any A 3 c l w h (by omega))
  go_enter Try.func93, Try.ntmps93
  go_wp2_with fail
  refine H1.out.mono ?_
  rintro e w1 ⟨B, m, d, rfl, ho, hm, _, hb⟩
  have e3 : m = 3 := by rw [← hm]; exact HL.out
  subst e3
  rcases own_forms ho with ⟨rfl, h0, _, _⟩ | ⟨g, rfl⟩
  · omega
  go_wp2_with fail
  refine (sortInts_any w l 3 HL.out g d w.heap.size w1 hb (Nat.le_refl _) ho (by omega) (by omega)).mono ?_
  rintro e w2 ⟨rfl, hb2, ho2⟩
  have hS := Sl.of_own ci_len ho2 (sortG_len 3 (by rw [HL.out]; exact Nat.le_refl _)) (by omega)
  obtain ⟨b1, o1, x, hA, ex, c1⟩ := hS.int (i := 1) (by omega)
  injection hA with hA; injection hA with hA hA'; subst hA hA'
  have ex2 : x = medL l := Option.some.inj (ex.symm.trans HM.out)
  have HX := Lib.hid ex2
  have q1 := c1 _ (Bl.refl _)
  simp only [Nat.zero_add] at q1
  clear ex ex2 c1 hS ho2
  go_wp2_with fail
  go_ret
  exact ⟨by rw [← HX.out]; rfl, hb2⟩
set_option maxHeartbeats 1000000 in
theorem l6Median_any (A : Option Addr) (c : Nat) (l : List Int) (w : World) (h : Sl ci 1 w A 3 l) :
    Calls Try.prog 91 #[.slice A 3 c] w fun e w' => e = .returned (.int .i64 (medL l)) ∧ Bl w w' := by
  have HL := Lib.hid h.1
  obtain ⟨b1, o1, x, rfl, ex, c1⟩ := h.int (i := 0) (by omega)
  obtain ⟨b2, o2, y, hA2, ey, c2⟩ := h.int (i := 1) (by omega)
  obtain ⟨b3, o3, z, hA3, ez, c3⟩ := h.int (i := 2) (by omega)
  injection hA2 with hA; injection hA with hA hA'; subst hA hA'
  injection hA3 with hA; injection hA with hA hA'; subst hA hA'
  have HM : Hid (medL l = max (min x y) (min (max x y) z)) := by show _ = _; simp [medL, medZ, ex, ey, ez]
  clear ex ey ez
  simp only [Nat.add_zero] at c1
  go_enter Try.func91, Try.ntmps91
  go_wp2_with fail
  refine region_bl (by kernel_rfl) (by kernel_rfl) (Bl.refl w) ?_
  repeat' (first | go_big_quiet_skip | (go_big_quiet_want; go_simp; (try go_bits); first | (refine ⟨_, fun _ _ => rfl, ?_⟩; go_big_quiet_on) | (apply Exists.intro; (with_reducible refine ⟨fun W hW => ret_bl hW (same_bl (l1Least_any _ _ W)), ?_⟩); go_big_quiet_on) | (apply Exists.intro; (with_reducible refine ⟨fun W hW => ret_bl hW (same_bl (l1Most_any _ _ W)), ?_⟩); go_big_quiet_on) | (apply Exists.intro; refine ⟨fun W hW => ?_, ?_⟩; (· go_simp; (try go_bits); rfl); go_big_quiet_on)))
  apply wpQuiet_nil
  intro W hb
  go_wp2_with fail
  go_ret
  exact ⟨by rw [HM.out]; rfl, hb⟩
set_option maxHeartbeats 400000 in
theorem absOfI_any (x : Int) (w : World) (hx : -4000 ≤ x ∧ x ≤ 4000) : Calls Try.prog 85 #[.int .i64 x] w fun e w' => e = .returned (.int .i64 (max x (-x))) ∧ w = w' := by
  obtain ⟨h1, h2⟩ := hx
  go_enter Try.func85, Try.ntmps85
  go_wp2
  all_goals
    go_ret
    first
    | exact ⟨by rw [show max x (-x) = x by omega]; rfl, rfl⟩
    | exact ⟨by rw [show max x (-x) = -x by omega]; rfl, rfl⟩
set_option maxHeartbeats 400000 in
theorem l6Far_any (x y : Int) (w : World) (hx : 0 ≤ x ∧ x ≤ 2000) (hy : 0 ≤ y ∧ y ≤ 2000) : Calls Try.prog 88 #[.int .i64 x, .int .i64 y] w fun e w' => e = .returned (.int .i64 (farZ x y)) ∧ w = w' := by
  obtain ⟨h1, h2⟩ := hx
  obtain ⟨h3, h4⟩ := hy
  have HR : Hid (farZ x y = max (x - y) (y - x)) := rfl
  go_enter Try.func88, Try.ntmps88
  go_wp2_with fail
  refine (l1Most_any _ _ _).mono ?_
  rintro e w' ⟨rfl, rfl⟩
  go_wp2_with fail
  go_ret
  exact ⟨by rw [HR.out]; rfl, rfl⟩
end Go.Proofs.Ytmnbbnboaokgjaa
