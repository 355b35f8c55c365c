/- The contracts of the orders of lockages in both programs. -/
import Derived.Test.YtnckpionabokeaaC8a
namespace Go.Proofs.Ytnckpionabokeaa
open Go.RowKit
set_option maxHeartbeats 1000000 in
theorem l8Before_any (p q : Arrival) (w : World) : Calls Try.prog 82 #[p.val, q.val] w fun e w' => e = .returned (.bool (befA p q)) ∧ Bl w w' := by
  obtain ⟨p0, p1, p2, p3⟩ := p
  obtain ⟨q0, q1, q2, q3⟩ := q
  have HV : Hid (befA ⟨p0, p1, p2, p3⟩ ⟨q0, q1, q2, q3⟩ = (decide (p2 < q2) || (decide (p2 = q2) && decide (p0 < q0)))) := rfl
  generalize befA ⟨p0, p1, p2, p3⟩ ⟨q0, q1, q2, q3⟩ = v at *
  simp only [Arrival.val]
  have F00 : ∀ W, Bl ((w.alloc (.cells #[.int .i64 p0, .bool p1, .int .i64 p2, .int .i64 p3] 43)).alloc (.cells #[.int .i64 q0, .bool q1, .int .i64 q2, .int .i64 q3] 43)) W → W.cell? ⟨w.heap.size, 0, none⟩ = some (.int .i64 p0) := Bl.all (by go_simp)
  have F01 : ∀ W, Bl ((w.alloc (.cells #[.int .i64 p0, .bool p1, .int .i64 p2, .int .i64 p3] 43)).alloc (.cells #[.int .i64 q0, .bool q1, .int .i64 q2, .int .i64 q3] 43)) W → W.cell? ⟨w.heap.size, 1, none⟩ = some (.bool p1) := Bl.all (by go_simp)
  have F02 : ∀ W, Bl ((w.alloc (.cells #[.int .i64 p0, .bool p1, .int .i64 p2, .int .i64 p3] 43)).alloc (.cells #[.int .i64 q0, .bool q1, .int .i64 q2, .int .i64 q3] 43)) W → W.cell? ⟨w.heap.size, 2, none⟩ = some (.int .i64 p2) := Bl.all (by go_simp)
  have F03 : ∀ W, Bl ((w.alloc (.cells #[.int .i64 p0, .bool p1, .int .i64 p2, .int .i64 p3] 43)).alloc (.cells #[.int .i64 q0, .bool q1, .int .i64 q2, .int .i64 q3] 43)) W → W.cell? ⟨w.heap.size, 3, none⟩ = some (.int .i64 p3) := Bl.all (by go_simp)
  have F10 : ∀ W, Bl ((w.alloc (.cells #[.int .i64 p0, .bool p1, .int .i64 p2, .int .i64 p3] 43)).alloc (.cells #[.int .i64 q0, .bool q1, .int .i64 q2, .int .i64 q3] 43)) W → W.cell? ⟨w.heap.size + 1, 0, none⟩ = some (.int .i64 q0) := Bl.all (by go_simp)
  have F11 : ∀ W, Bl ((w.alloc (.cells #[.int .i64 p0, .bool p1, .int .i64 p2, .int .i64 p3] 43)).alloc (.cells #[.int .i64 q0, .bool q1, .int .i64 q2, .int .i64 q3] 43)) W → W.cell? ⟨w.heap.size + 1, 1, none⟩ = some (.bool q1) := Bl.all (by go_simp)
  have F12 : ∀ W, Bl ((w.alloc (.cells #[.int .i64 p0, .bool p1, .int .i64 p2, .int .i64 p3] 43)).alloc (.cells #[.int .i64 q0, .bool q1, .int .i64 q2, .int .i64 q3] 43)) W → W.cell? ⟨w.heap.size + 1, 2, none⟩ = some (.int .i64 q2) := Bl.all (by go_simp)
  have F13 : ∀ W, Bl ((w.alloc (.cells #[.int .i64 p0, .bool p1, .int .i64 p2, .int .i64 p3] 43)).alloc (.cells #[.int .i64 q0, .bool q1, .int .i64 q2, .int .i64 q3] 43)) W → W.cell? ⟨w.heap.size + 1, 3, none⟩ = some (.int .i64 q3) := Bl.all (by go_simp)
  have hb := Bl.refl ((w.alloc (.cells #[.int .i64 p0, .bool p1, .int .i64 p2, .int .i64 p3] 43)).alloc (.cells #[.int .i64 q0, .bool q1, .int .i64 q2, .int .i64 q3] 43))
  have hb0 : Hid (Bl w ((w.alloc (.cells #[.int .i64 p0, .bool p1, .int .i64 p2, .int .i64 p3] 43)).alloc (.cells #[.int .i64 q0, .bool q1, .int .i64 q2, .int .i64 q3] 43))) := ((Bl.refl w).alloc _).alloc _
  cases h1 : decide (p2 < q2)
  · by_cases h2 : p2 = q2
    · have HR := Lib.hid (HV.out.trans (by rw [h1]; simp [h2] : _ = decide (p0 < q0)))
      have e2 : (p2 == q2) = true := by simpa using h2
      cases h3 : decide (p0 < q0)
      all_goals
        rw [h3] at HR
        have e1 : decide (p2 < q2) = false := h1
        clear h2
        go_enter Try.func82, Try.ntmps82
        go_wp2_with fail
        go_ret
        exact ⟨by rw [HR.out]; rfl, hb0.out.trans hb⟩
    · have HR := Lib.hid (HV.out.trans (by rw [h1]; simp [h2] : _ = false))
      have e2 : (p2 == q2) = false := by simpa using h2
      clear h2
      go_enter Try.func82, Try.ntmps82
      go_wp2_with fail
      go_ret
      exact ⟨by rw [HR.out]; rfl, hb0.out.trans hb⟩
  · have HR := Lib.hid (HV.out.trans (by rw [h1]; rfl : _ = true))
    go_enter Try.func82, Try.ntmps82
    go_wp2_with fail
    go_ret
    exact ⟨by rw [HR.out]; rfl, hb0.out.trans hb⟩
def nextTest (l : List Arrival) (o : List Int) (x : Int) (m : Nat) : Bool := decide ((m : Int) = x) || !ahead l m x || hasB o m
theorem next_one (f : Nat → Bool) (k : Nat) : (List.range (k + 1)).all f = ((List.range k).all f && f k) := by rw [List.range_succ, List.all_append]; simp
theorem next_bad {f : Nat → Bool} {n k : Nat} (hk : k < n) (h : f k = false) : (List.range n).all f = false := by
  rw [List.all_eq_false]; exact ⟨k, List.mem_range.2 hk, by simp [h]⟩
theorem ahead_nat {l : List Arrival} {i j : Nat} {p q : Arrival} (hp : l[i]? = some p) (hq : l[j]? = some q) : ahead l i j = (decide (p.Up = q.Up) && befA p q) := by
  rw [ahead, arrAtI_nat hp, arrAtI_nat hq]
set_option maxHeartbeats 2000000 in
theorem l8Next_any (A : Option Addr) (n c : Nat) (l : List Arrival) (B : Option Addr) (m d : Nat) (bg : List Int) (i : Nat) (w : World) (h : Sl Arrival.cs 4 w A n l) (ho : Sl ci 1 w B m bg) (hi : i < n) :
    Calls Try.prog 75 #[.slice A n c, .slice B m d, .int .i64 i] w fun e w' => e = .returned (.bool (!hasB bg i && nextOk l bg i)) ∧ Bl w w' := by
  have bn := h.le
  have HL := Lib.hid h.1
  have H1 := Lib.hid (l1Has_any B m d bg (i : Int) w ho)
  go_enter Try.func75, Try.ntmps75
  go_wp2_with fail
  refine H1.out.mono ?_
  rintro e w1 ⟨rfl, hb⟩
  cases h1 : hasB bg (i : Int)
  case true =>
    have HR := Lib.hid (show (!hasB bg (i : Int) && nextOk l bg i) = false by rw [h1]; rfl)
    simp only [h1]
    go_wp2_with fail
    go_ret
    exact ⟨by rw [HR.out]; rfl, hb⟩
  have HE : Hid ((!hasB bg (i : Int) && nextOk l bg i) = (List.range n).all (nextTest l bg i)) := by show _ = _; rw [h1, nextOk, HL.out]; rfl
  simp only [h1]
  obtain ⟨b2, o2, q, hA0, eq, q1, q2, q3, q4⟩ := h.Arrival hi
  go_wp2_with fail
  go_loopw [7] (fun j wr => ∃ k : Nat, k ≤ n ∧ j = .int .i64 k ∧ Bl w wr ∧ Hid ((List.range k).all (nextTest l bg i) = true)) (fun j _ => n - (intOf j).toNat)
  case atStart => exact ⟨0, Nat.zero_le _, rfl, hb, rfl⟩
  case round =>
    clear hb
    obtain ⟨k, hk, rfl, hb, he⟩ := hrel
    by_cases hlt : k < n
    · obtain ⟨b1, o1, p, hA, ep, c1, c2, c3, c4⟩ := h.Arrival hlt
      rw [hA0] at hA
      injection hA with hA; injection hA with hA hA'; subst hA hA'
      subst hA0
      have HA := Lib.hid (ahead_nat ep eq)
      have H2 := Lib.hid (fun W => l8Before_any p q W)
      have H3 := Lib.hid (fun W hW => l1Has_any B m d bg (k : Int) W (ho.bl hW))
      have HT : Hid (nextTest l bg i k = (decide ((k : Int) = (i : Int)) || !ahead l k i || hasB bg k)) := rfl
      clear ep eq
      by_cases hki : k = i
      · have e1 : ((k : Int) != (i : Int)) = false := by simp; omega
        have HN := Lib.hid (show nextTest l bg i k = true by rw [HT.out]; simp [hki])
        have e3 : k = i := hki
        go_wp2_with fail
        refine region_bl (by kernel_rfl) (by kernel_rfl) hb ?_
        repeat' (first | go_big_quiet_skip | (go_big_quiet_want; go_simp; (try go_bits); first | (refine ⟨_, fun _ _ => rfl, ?_⟩; go_big_quiet_on) | (apply Exists.intro; (with_reducible refine ⟨fun W hW => ret_bl hW (H2.out W), ?_⟩); go_big_quiet_on) | (apply Exists.intro; (with_reducible refine ⟨fun W hW => ret_bl hW (H3.out W (by with_reducible assumption)), ?_⟩); go_big_quiet_on) | (apply Exists.intro; refine ⟨fun W hW => ?_, ?_⟩; (· go_simp; (try go_bits); rfl); go_big_quiet_on)))
        apply wpQuiet_nil
        intro W hb
        go_wp2_with fail
        first | exact ⟨⟨k + 1, by omega, by go_num, hb, by show _ = _; rw [next_one, he.out, HN.out]; rfl⟩, by simp [intOf]; omega⟩ | (refine ⟨?_, by simp [intOf]; omega⟩; (repeat apply Exists.intro); exact ⟨⟨k + 1, by omega, by go_num, hb, by show _ = _; rw [next_one, he.out, HN.out]; rfl⟩, rfl⟩)
      have e1 : ((k : Int) != (i : Int)) = true := by simp; omega
      have HT := Lib.hid (HT.out.trans (by rw [show decide ((k : Int) = (i : Int)) = false by simp; omega, Bool.false_or]))
      clear hki
      by_cases hu : p.Up = q.Up
      case neg =>
        have e2 : (p.Up == q.Up) = false := by simpa using hu
        have HN := Lib.hid (show nextTest l bg i k = true by rw [HT.out, HA.out]; simp [hu])
        clear hu
        go_wp2_with fail
        refine region_bl (by kernel_rfl) (by kernel_rfl) hb ?_
        repeat' (first | go_big_quiet_skip | (go_big_quiet_want; go_simp; (try go_bits); first | (refine ⟨_, fun _ _ => rfl, ?_⟩; go_big_quiet_on) | (apply Exists.intro; (with_reducible refine ⟨fun W hW => ret_bl hW (H2.out W), ?_⟩); go_big_quiet_on) | (apply Exists.intro; (with_reducible refine ⟨fun W hW => ret_bl hW (H3.out W (by with_reducible assumption)), ?_⟩); go_big_quiet_on) | (apply Exists.intro; refine ⟨fun W hW => ?_, ?_⟩; (· go_simp; (try go_bits); rfl); go_big_quiet_on)))
        apply wpQuiet_nil
        intro W hb
        go_wp2_with fail
        first | exact ⟨⟨k + 1, by omega, by go_num, hb, by show _ = _; rw [next_one, he.out, HN.out]; rfl⟩, by simp [intOf]; omega⟩ | (refine ⟨?_, by simp [intOf]; omega⟩; (repeat apply Exists.intro); exact ⟨⟨k + 1, by omega, by go_num, hb, by show _ = _; rw [next_one, he.out, HN.out]; rfl⟩, rfl⟩)
      have e2 : (p.Up == q.Up) = true := by simpa using hu
      have HA := Lib.hid (HA.out.trans (by simp [hu] : _ = befA p q))
      clear hu
      cases h4 : befA p q
      · have HN := Lib.hid (show nextTest l bg i k = true by rw [HT.out, HA.out, h4]; simp)
        go_wp2_with fail
        refine region_bl (by kernel_rfl) (by kernel_rfl) hb ?_
        repeat' (first | go_big_quiet_skip | (go_big_quiet_want; go_simp; (try go_bits); first | (refine ⟨_, fun _ _ => rfl, ?_⟩; go_big_quiet_on) | (apply Exists.intro; (with_reducible refine ⟨fun W hW => ret_bl hW (H2.out W), ?_⟩); go_big_quiet_on) | (apply Exists.intro; (with_reducible refine ⟨fun W hW => ret_bl hW (H3.out W (by with_reducible assumption)), ?_⟩); go_big_quiet_on) | (apply Exists.intro; refine ⟨fun W hW => ?_, ?_⟩; (· go_simp; (try go_bits); rfl); go_big_quiet_on)))
        apply wpQuiet_nil
        intro W hb
        go_wp2_with fail
        first | exact ⟨⟨k + 1, by omega, by go_num, hb, by show _ = _; rw [next_one, he.out, HN.out]; rfl⟩, by simp [intOf]; omega⟩ | (refine ⟨?_, by simp [intOf]; omega⟩; (repeat apply Exists.intro); exact ⟨⟨k + 1, by omega, by go_num, hb, by show _ = _; rw [next_one, he.out, HN.out]; rfl⟩, rfl⟩)
      cases h5 : hasB bg (k : Int)
      · have HN := Lib.hid (show nextTest l bg i k = false by rw [HT.out, HA.out, h4, h5]; rfl)
        have HF := Lib.hid (HE.out.trans (next_bad hlt HN.out))
        go_wp2_with fail
        refine region_bl (by kernel_rfl) (by kernel_rfl) hb ?_
        repeat' (first | go_big_quiet_skip | (go_big_quiet_want; go_simp; (try go_bits); first | (refine ⟨_, fun _ _ => rfl, ?_⟩; go_big_quiet_on) | (apply Exists.intro; (with_reducible refine ⟨fun W hW => ret_bl hW (H2.out W), ?_⟩); go_big_quiet_on) | (apply Exists.intro; (with_reducible refine ⟨fun W hW => ret_bl hW (H3.out W (by with_reducible assumption)), ?_⟩); go_big_quiet_on) | (apply Exists.intro; refine ⟨fun W hW => ?_, ?_⟩; (· go_simp; (try go_bits); rfl); go_big_quiet_on)))
        apply wpQuiet_nil
        intro W hb
        go_wp2_with fail
        go_ret
        exact ⟨by rw [HF.out]; rfl, hb⟩
      · have HN := Lib.hid (show nextTest l bg i k = true by rw [HT.out, HA.out, h4, h5]; rfl)
        go_wp2_with fail
        refine region_bl (by kernel_rfl) (by kernel_rfl) hb ?_
        repeat' (first | go_big_quiet_skip | (go_big_quiet_want; go_simp; (try go_bits); first | (refine ⟨_, fun _ _ => rfl, ?_⟩; go_big_quiet_on) | (apply Exists.intro; (with_reducible refine ⟨fun W hW => ret_bl hW (H2.out W), ?_⟩); go_big_quiet_on) | (apply Exists.intro; (with_reducible refine ⟨fun W hW => ret_bl hW (H3.out W (by with_reducible assumption)), ?_⟩); go_big_quiet_on) | (apply Exists.intro; refine ⟨fun W hW => ?_, ?_⟩; (· go_simp; (try go_bits); rfl); go_big_quiet_on)))
        apply wpQuiet_nil
        intro W hb
        go_wp2_with fail
        first | exact ⟨⟨k + 1, by omega, by go_num, hb, by show _ = _; rw [next_one, he.out, HN.out]; rfl⟩, by simp [intOf]; omega⟩ | (refine ⟨?_, by simp [intOf]; omega⟩; (repeat apply Exists.intro); exact ⟨⟨k + 1, by omega, by go_num, hb, by show _ = _; rw [next_one, he.out, HN.out]; rfl⟩, rfl⟩)
    · have e : k = n := by omega
      subst e
      have HF := Lib.hid (HE.out.trans he.out)
      go_wp2_with fail
      go_ret
      exact ⟨by rw [HF.out]; rfl, hb⟩
theorem ord_no1 {P : Nat → Int → Bool} {l : List Arrival} {o : List Int} (h : arrOk l = false) : (arrOk l && decide (o.length = l.length) && upTo P o o.length) = false := by simp [h]
theorem ord_no2 {P : Nat → Int → Bool} {l : List Arrival} {o : List Int} (h : ¬ o.length = l.length) : (arrOk l && decide (o.length = l.length) && upTo P o o.length) = false := by simp [h]
theorem ord_yes {P : Nat → Int → Bool} {l : List Arrival} {o : List Int} (h1 : arrOk l = true) (h : o.length = l.length) : (arrOk l && decide (o.length = l.length) && upTo P o o.length) = upTo P o o.length := by simp [h1, h]
set_option maxHeartbeats 2000000 in
theorem l8Order_spec (A : Option Addr) (n c : Nat) (l : List Arrival) (B : Option Addr) (m d : Nat) (o : List Int) (w : World) (h : Sl Arrival.cs 4 w A n l) (ho : Sl ci 1 w B m o) (hc : m ≤ d) :
    Calls Try.prog 54 #[.slice A n c, .slice B m d] w fun e w' => e = .returned (.bool (specOrd l o)) ∧ Bl w w' := by
  have bn := h.le
  have bm := ho.le
  have HL := Lib.hid h.1
  have HM := Lib.hid ho.1
  have H1 := Lib.hid (l8Good_any A n c l w h)
  go_enter Try.func54, Try.ntmps54
  go_wp2_with fail
  refine H1.out.mono ?_
  rintro e w1 ⟨rfl, hb⟩
  cases h1 : arrOk l
  · have HR := Lib.hid (show specOrd l o = false from ord_no1 h1)
    simp only [h1]
    go_wp2_with fail
    go_ret
    exact ⟨by rw [HR.out]; rfl, hb⟩
  by_cases hmn : m = n
  case neg =>
    have HR := Lib.hid (show specOrd l o = false from ord_no2 (by rw [HL.out, HM.out]; exact hmn))
    have e1 : ((m : Int) != (n : Int)) = true := by simp; omega
    simp only [h1]
    go_wp2_with fail
    go_ret
    exact ⟨by rw [HR.out]; rfl, hb⟩
  have HE := Lib.hid (show specOrd l o = upTo (specAt l o) o o.length from ord_yes h1 (by rw [HL.out, HM.out]; exact hmn))
  have e1 : ((m : Int) != (n : Int)) = false := by simp; omega
  clear hmn
  simp only [h1]
  go_wp2_with fail
  clear e1
  go_loopw [5] (fun i wr => ∃ k : Nat, k ≤ m ∧ i = .int .i64 k ∧ Bl w wr ∧ Hid (upTo (specAt l o) o k = true)) (fun i _ => m - (intOf i).toNat)
  case atStart => exact ⟨0, Nat.zero_le _, rfl, hb, rfl⟩
  case round =>
    clear hb
    obtain ⟨k, hk, rfl, hb, he⟩ := hrel
    by_cases hlt : k < m
    · obtain ⟨b1, o1, x, rfl, ex, c1⟩ := ho.int hlt
      have hkd : k ≤ d := by omega
      have EX := Lib.hid ex
      have HA : Hid (specAt l o k x = (inB x 0 ((n : Int) - 1) && !hasB (o.take k) x && nextOk l (o.take k) x)) := by show _ = _; rw [specAt, fresh, HL.out]
      clear ex
      have H2 := Lib.hid (fun W => same_bl (l1In_any x 0 ((n : Int) - 1) W))
      cases h2 : inB x 0 ((n : Int) - 1)
      · have HN := Lib.hid (HA.out.trans (by rw [h2]; rfl : _ = false))
        have HF := Lib.hid (HE.out.trans (upTo_not EX.out HN.out))
        go_wp2_with fail
        refine region_bl (by kernel_rfl) (by kernel_rfl) hb ?_
        repeat' (first | go_big_quiet_skip | (go_big_quiet_want; go_simp; (try go_bits); first | (refine ⟨_, fun _ _ => rfl, ?_⟩; go_big_quiet_on) | (apply Exists.intro; (with_reducible refine ⟨fun W hW => ret_bl hW (H2.out W), ?_⟩); go_big_quiet_on) | (apply Exists.intro; refine ⟨fun W hW => ?_, ?_⟩; (· go_simp; (try go_bits); rfl); go_big_quiet_on)))
        apply wpQuiet_nil
        intro W hb
        go_wp2_with fail
        go_ret
        exact ⟨by rw [HF.out]; rfl, hb⟩
      have hx := inB_iff.1 h2
      obtain ⟨i, rfl⟩ := Int.eq_ofNat_of_zero_le hx.1
      have H3 := Lib.hid (fun W hW => l8Next_any A n c l (some ⟨b1, o1, none⟩) k d (o.take k) i W (h.bl hW) ((ho.bl hW).take_ (by omega)) (by omega))
      have HA := Lib.hid (HA.out.trans (by rw [h2, Bool.true_and] : _ = (!hasB (o.take k) (i : Int) && nextOk l (o.take k) i)))
      clear hx
      cases h3 : (!hasB (o.take k) (i : Int) && nextOk l (o.take k) (i : Int))
      · have HN := Lib.hid (HA.out.trans h3)
        have HF := Lib.hid (HE.out.trans (upTo_not EX.out HN.out))
        go_wp2_with fail
        refine region_bl (by kernel_rfl) (by kernel_rfl) hb ?_
        repeat' (first | go_big_quiet_skip | (go_big_quiet_want; go_simp; (try go_bits); first | (refine ⟨_, fun _ _ => rfl, ?_⟩; go_big_quiet_on) | (apply Exists.intro; (with_reducible refine ⟨fun W hW => ret_bl hW (H2.out W), ?_⟩); go_big_quiet_on) | (apply Exists.intro; (with_reducible refine ⟨fun W hW => ret_bl hW (H3.out W (by with_reducible assumption)), ?_⟩); go_big_quiet_on) | (apply Exists.intro; refine ⟨fun W hW => ?_, ?_⟩; (· go_simp; (try go_bits); rfl); go_big_quiet_on)))
        apply wpQuiet_nil
        intro W hb
        go_wp2_with fail
        go_ret
        exact ⟨by rw [HF.out]; rfl, hb⟩
      · have HN := Lib.hid (HA.out.trans h3)
        go_wp2_with fail
        refine region_bl (by kernel_rfl) (by kernel_rfl) hb ?_
        repeat' (first | go_big_quiet_skip | (go_big_quiet_want; go_simp; (try go_bits); first | (refine ⟨_, fun _ _ => rfl, ?_⟩; go_big_quiet_on) | (apply Exists.intro; (with_reducible refine ⟨fun W hW => ret_bl hW (H2.out W), ?_⟩); go_big_quiet_on) | (apply Exists.intro; (with_reducible refine ⟨fun W hW => ret_bl hW (H3.out W (by with_reducible assumption)), ?_⟩); go_big_quiet_on) | (apply Exists.intro; refine ⟨fun W hW => ?_, ?_⟩; (· go_simp; (try go_bits); rfl); go_big_quiet_on)))
        apply wpQuiet_nil
        intro W hb
        go_wp2_with fail
        first | exact ⟨⟨k + 1, by omega, by go_num, hb, by show _ = _; rw [upTo_one EX.out, he.out, HN.out]; rfl⟩, by simp [intOf]; omega⟩ | (refine ⟨?_, by simp [intOf]; omega⟩; (repeat apply Exists.intro); exact ⟨⟨k + 1, by omega, by go_num, hb, by show _ = _; rw [upTo_one EX.out, he.out, HN.out]; rfl⟩, rfl⟩)
    · have e : k = m := by omega
      subst e
      have HF := Lib.hid (show specOrd l o = true by rw [HE.out, HM.out]; exact he.out)
      go_wp2_with fail
      go_ret
      exact ⟨by rw [HF.out]; rfl, hb⟩
theorem l8Order_any (A : Option Addr) (n c : Nat) (l : List Arrival) (B : Option Addr) (m d : Nat) (o : List Int) (w : World) (h : Sl Arrival.cs 4 w A n l) (ho : Sl ci 1 w B m o) (hc : m ≤ d) :
    Calls Try.prog 54 #[.slice A n c, .slice B m d] w fun e w' => e = .returned (.bool (implOrd l o)) ∧ Bl w w' := by
  rw [← ord_same]; exact l8Order_spec A n c l B m d o w h ho hc
set_option maxHeartbeats 2000000 in
theorem isLockageOrder_any (A : Option Addr) (n c : Nat) (l : List Arrival) (B : Option Addr) (m d : Nat) (o : List Int) (w : World) (h : Sl Arrival.cs 4 w A n l) (ho : Sl ci 1 w B m o) (hc : m ≤ d) :
    Calls Try.prog 28 #[.slice A n c, .slice B m d] w fun e w' => e = .returned (.bool (implOrd l o)) ∧ Bl w w' := by
  have bn := h.le
  have bm := ho.le
  have HL := Lib.hid h.1
  have HM := Lib.hid ho.1
  have H1 := Lib.hid (areArrivals_any A n c l w h)
  go_enter Try.func28, Try.ntmps28
  go_wp2_with fail
  refine H1.out.mono ?_
  rintro e w1 ⟨rfl, hb⟩
  cases h1 : arrOk l
  · have HR := Lib.hid (show implOrd l o = false from ord_no1 h1)
    simp only [h1]
    go_wp2_with fail
    go_ret
    exact ⟨by rw [HR.out]; rfl, hb⟩
  by_cases hmn : m = n
  case neg =>
    have HR := Lib.hid (show implOrd l o = false from ord_no2 (by rw [HL.out, HM.out]; exact hmn))
    have e1 : ((m : Int) != (n : Int)) = true := by simp; omega
    simp only [h1]
    go_wp2_with fail
    go_ret
    exact ⟨by rw [HR.out]; rfl, hb⟩
  have HE := Lib.hid (show implOrd l o = upTo (implAt l o) o o.length from ord_yes h1 (by rw [HL.out, HM.out]; exact hmn))
  have e1 : ((m : Int) != (n : Int)) = false := by simp; omega
  clear hmn
  simp only [h1]
  go_wp2_with fail
  clear e1
  go_loopw [21] (fun i wr => ∃ k : Nat, k ≤ m ∧ i = .int .i64 k ∧ Bl w wr ∧ Hid (upTo (implAt l o) o k = true)) (fun i _ => m - (intOf i).toNat)
  case atStart => exact ⟨0, Nat.zero_le _, rfl, hb, rfl⟩
  case round =>
    clear hb
    obtain ⟨k, hk, rfl, hb, he⟩ := hrel
    by_cases hlt : k < m
    · obtain ⟨b1, o1, x, rfl, ex, c1⟩ := ho.int hlt
      have q1 := c1 _ hb
      have hkd : k ≤ d := by omega
      have EX := Lib.hid ex
      have HA : Hid (implAt l o k x = (inB x 0 ((n : Int) - 1) && !hasB (o.take k) x && !(o.take k).any (fun b => ahead l x b))) := by show _ = _; rw [implAt, fresh, HL.out]
      clear ex
      have H2 := Lib.hid (fun W => same_bl (inside_any x 0 ((n : Int) - 1) W))
      have H3 := Lib.hid (fun W hW => contains_any (some ⟨b1, o1, none⟩) k d (o.take k) x W ((ho.bl hW).take_ (by omega)))
      cases h2 : inB x 0 ((n : Int) - 1)
      · have HN := Lib.hid (HA.out.trans (by rw [h2]; rfl : _ = false))
        have HF := Lib.hid (HE.out.trans (upTo_not EX.out HN.out))
        go_wp2_with fail
        refine (H2.out _).mono ?_
        rintro e w' ⟨rfl, hbn⟩
        have hb := hb.trans hbn
        clear hbn
        simp only [h2]
        go_wp2_with fail
        go_ret
        exact ⟨by rw [HF.out]; rfl, hb⟩
      cases h3 : hasB (o.take k) x
      case true =>
        have HN := Lib.hid (HA.out.trans (by rw [h2, h3]; rfl : _ = false))
        have HF := Lib.hid (HE.out.trans (upTo_not EX.out HN.out))
        go_wp2_with fail
        refine (H2.out _).mono ?_
        rintro e w' ⟨rfl, hbn⟩
        have hb := hb.trans hbn
        clear hbn
        simp only [h2]
        go_wp2_with fail
        refine (H3.out _ hb).mono ?_
        rintro e w' ⟨rfl, hbn⟩
        have hb := hb.trans hbn
        clear hbn
        simp only [h3]
        go_wp2_with fail
        go_ret
        exact ⟨by rw [HF.out]; rfl, hb⟩
      have HA := Lib.hid (HA.out.trans (by rw [h2, h3]; rfl : _ = !(o.take k).any (fun b => ahead l x b)))
      have hx := inB_iff.1 h2
      obtain ⟨i, rfl⟩ := Int.eq_ofNat_of_zero_le hx.1
      have hi : i < n := by omega
      obtain ⟨b2, o2, p, rfl, ep, p1, p2, p3, p4⟩ := h.Arrival hi
      have EP := Lib.hid ep
      clear ep hx
      go_wp2_with fail
      refine (H2.out _).mono ?_
      rintro e w' ⟨rfl, hbn⟩
      have hb := hb.trans hbn
      clear hbn
      simp only [h2]
      go_wp2_with fail
      refine (H3.out _ hb).mono ?_
      rintro e w2 ⟨rfl, hbn⟩
      have hb2 := hb.trans hbn
      clear hbn hb q1
      simp only [h3]
      go_wp2_with fail
      go_loopw [43] (fun u wx => ∃ j : Nat, j ≤ k ∧ u = .int .i64 j ∧ Bl w wx ∧ Hid ((o.take j).any (fun b => ahead l (i : Int) b) = false)) (fun u _ => k - (intOf u).toNat)
      case atStart => exact ⟨0, Nat.zero_le _, rfl, hb2, rfl⟩
      case round =>
        clear hb2
        obtain ⟨j, hj, rfl, hbx, hej⟩ := hrel
        by_cases hjk : j < k
        · obtain ⟨b3, o3, y, hA3, ey, c3⟩ := ho.int (i := j) (by omega)
          injection hA3 with hA3; injection hA3 with hA3 hA3'; subst hA3 hA3'
          have q3 := c3 _ hbx
          have hjm : j < m := by omega
          have hfr := upTo_at he.out hjk ey
          simp only [implAt, fresh, Bool.and_eq_true, inB_iff] at hfr
          have hy0 := hfr.1.1.1
          have hy1 := hfr.1.1.2
          rw [HL.out] at hy1
          clear hfr
          obtain ⟨i', rfl⟩ := Int.eq_ofNat_of_zero_le hy0
          have hi' : i' < n := by omega
          obtain ⟨b4, o4, q, hA4, eq, g1, g2, g3, g4⟩ := h.Arrival hi'
          injection hA4 with hA4; injection hA4 with hA4 hA4'; subst hA4 hA4'
          have HH := Lib.hid (ahead_nat EP.out eq)
          have EY := Lib.hid ey
          have H5 := Lib.hid (fun W => compareArrivals_any q p W)
          have HC := Lib.hid (cmpArr_pos q p)
          generalize cmpArr q p = z at *
          clear ey eq c3
          by_cases hu : q.Up = p.Up
          case neg =>
            have e2 : (q.Up == p.Up) = false := by simpa using hu
            have HN := Lib.hid (show ahead l (i : Int) (i' : Int) = false by rw [HH.out]; simp [show ¬ p.Up = q.Up from fun e => hu e.symm])
            clear hu
            go_wp2_with fail
            refine region_bl (by kernel_rfl) (by kernel_rfl) hbx ?_
            repeat' (first | go_big_quiet_skip | (go_big_quiet_want; go_simp; (try go_bits); first | (refine ⟨_, fun _ _ => rfl, ?_⟩; go_big_quiet_on) | (apply Exists.intro; (with_reducible refine ⟨fun W hW => ret_bl hW (H5.out W), ?_⟩); go_big_quiet_on) | (apply Exists.intro; refine ⟨fun W hW => ?_, ?_⟩; (· go_simp; (try go_bits); rfl); go_big_quiet_on)))
            apply wpQuiet_nil
            intro W hb
            go_wp2_with fail
            first | exact ⟨⟨j + 1, by omega, by go_num, hb, by show _ = _; rw [take_one EY.out, List.any_append, hej.out]; simp [HN.out]⟩, by simp [intOf]; omega⟩ | (refine ⟨?_, by simp [intOf]; omega⟩; (repeat apply Exists.intro); exact ⟨⟨j + 1, by omega, by go_num, hb, by show _ = _; rw [take_one EY.out, List.any_append, hej.out]; simp [HN.out]⟩, rfl⟩)
          have e2 : (q.Up == p.Up) = true := by simpa using hu
          cases h6 : befA p q
          · have HN := Lib.hid (show ahead l (i : Int) (i' : Int) = false by rw [HH.out, h6]; simp)
            have e6 : decide (0 < z) = false := HC.out.trans h6
            clear hu
            go_wp2_with fail
            refine region_bl (by kernel_rfl) (by kernel_rfl) hbx ?_
            repeat' (first | go_big_quiet_skip | (go_big_quiet_want; go_simp; (try go_bits); first | (refine ⟨_, fun _ _ => rfl, ?_⟩; go_big_quiet_on) | (apply Exists.intro; (with_reducible refine ⟨fun W hW => ret_bl hW (H5.out W), ?_⟩); go_big_quiet_on) | (apply Exists.intro; refine ⟨fun W hW => ?_, ?_⟩; (· go_simp; (try go_bits); rfl); go_big_quiet_on)))
            apply wpQuiet_nil
            intro W hb
            go_wp2_with fail
            first | exact ⟨⟨j + 1, by omega, by go_num, hb, by show _ = _; rw [take_one EY.out, List.any_append, hej.out]; simp [HN.out]⟩, by simp [intOf]; omega⟩ | (refine ⟨?_, by simp [intOf]; omega⟩; (repeat apply Exists.intro); exact ⟨⟨j + 1, by omega, by go_num, hb, by show _ = _; rw [take_one EY.out, List.any_append, hej.out]; simp [HN.out]⟩, rfl⟩)
          · have HN := Lib.hid (show ahead l (i : Int) (i' : Int) = true by rw [HH.out, h6]; simp [hu])
            have e6 : decide (0 < z) = true := HC.out.trans h6
            clear hu
            have HB := Lib.hid (show (o.take k).any (fun b => ahead l (i : Int) b) = true from List.any_eq_true.2 ⟨_, List.mem_of_getElem? (i := j) (by rw [List.getElem?_take, if_pos hjk]; exact EY.out), HN.out⟩)
            have HF := Lib.hid (HE.out.trans (upTo_not EX.out (HA.out.trans (by rw [HB.out]; rfl))))
            go_wp2_with fail
            refine region_bl (by kernel_rfl) (by kernel_rfl) hbx ?_
            repeat' (first | go_big_quiet_skip | (go_big_quiet_want; go_simp; (try go_bits); first | (refine ⟨_, fun _ _ => rfl, ?_⟩; go_big_quiet_on) | (apply Exists.intro; (with_reducible refine ⟨fun W hW => ret_bl hW (H5.out W), ?_⟩); go_big_quiet_on) | (apply Exists.intro; refine ⟨fun W hW => ?_, ?_⟩; (· go_simp; (try go_bits); rfl); go_big_quiet_on)))
            apply wpQuiet_nil
            intro W hb
            go_wp2_with fail
            go_ret
            exact ⟨by rw [HF.out]; rfl, hb⟩
        · have e : j = k := by omega
          subst e
          have HN := Lib.hid (HA.out.trans (by rw [hej.out]; rfl : _ = true))
          go_wp2_with fail
          first | exact ⟨⟨j + 1, by omega, by go_num, hbx, by show _ = _; rw [upTo_one EX.out, he.out, HN.out]; rfl⟩, by simp [intOf]; omega⟩ | (refine ⟨?_, by simp [intOf]; omega⟩; (repeat apply Exists.intro); exact ⟨⟨j + 1, by omega, by go_num, hbx, by show _ = _; rw [upTo_one EX.out, he.out, HN.out]; rfl⟩, rfl⟩)
    · have e : k = m := by omega
      subst e
      have HF := Lib.hid (show implOrd l o = true by rw [HE.out, HM.out]; exact he.out)
      go_wp2_with fail
      go_ret
      exact ⟨by rw [HF.out]; rfl, hb⟩
set_option maxHeartbeats 400000 in
theorem specIsLockageOrder_any (A : Option Addr) (n c : Nat) (l : List Arrival) (B : Option Addr) (m d : Nat) (o : List Int) (w : World) (h : Sl Arrival.cs 4 w A n l) (ho : Sl ci 1 w B m o) (_ : n ≤ c) (hc : m ≤ d) :
    Calls Try.prog 32 #[.slice A n c, .slice B m d] w fun e w' => e = .returned (.bool (implOrd l o)) ∧ Bl w w' := by
  have H1 := Lib.hid (l8Order_any A n c l B m d o w h ho hc)
  go_enter Try.func32, Try.ntmps32
  go_wp2_with fail
  refine H1.out.mono ?_
  rintro e w' ⟨rfl, hb⟩
  go_wp2_with fail
  go_ret
  exact ⟨rfl, hb⟩
theorem implIsLockageOrder_any (A : Option Addr) (n c : Nat) (l : List Arrival) (B : Option Addr) (m d : Nat) (o : List Int) (w : World) (h : Sl Arrival.cs 4 w A n l) (ho : Sl ci 1 w B m o) (_ : n ≤ c) (hc : m ≤ d) :
    Calls Try.prog 28 #[.slice A n c, .slice B m d] w fun e w' => e = .returned (.bool (implOrd l o)) ∧ Bl w w' := isLockageOrder_any A n c l B m d o w h ho hc
end Go.Proofs.Ytnckpionabokeaa
