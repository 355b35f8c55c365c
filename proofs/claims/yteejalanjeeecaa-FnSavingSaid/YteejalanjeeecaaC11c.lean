/- The contracts of the functions on lists of pools: validity, water. -/
import Derived.Test.YteejalanjeeecaaC11b
namespace Go.Proofs.Yteejalanjeeecaa
open Go.RowKit
def poolsOk (l : List Pool) : Bool := inB l.length 2 5 && l.all validPool
set_option maxHeartbeats 400000 in
theorem l11List_any (A : Option Addr) (n c : Nat) (l : List Pool) (w : World) (h : Sl Pool.cs 3 w A n l) :
    Calls Try.prog 61 #[.slice A n c] w fun e w' => e = .returned (.bool (poolsOk l)) ∧ Bl w w' := by
  have bn := h.le
  have HL := Lib.hid h.1
  go_enter Try.func61, Try.ntmps61
  go_wp2
  go_loopw [3] (fun i wr => ∃ k : Nat, k ≤ n ∧ i = .int .i64 k ∧ Bl w wr ∧ Hid ((l.take k).all validPool = true)) (fun i _ => n - (intOf i).toNat)
  case atStart => exact ⟨0, Nat.zero_le _, rfl, Bl.refl _, rfl⟩
  case round =>
    obtain ⟨k, hk, rfl, hb, he⟩ := hrel
    by_cases hlt : k < n
    · obtain ⟨b1, o1, p1, rfl, e1, c11, c12, c13⟩ := h.Pool hlt
      have E1 := Lib.hid e1; clear e1
      have H1 := Lib.hid (fun w => l11Good_any p1 w)
      cases hv : validPool p1
      · have HF : Hid (poolsOk l = false) := by show _ = _; simp [poolsOk, all_not E1.out hv]
        go_wp2_with fail
        refine (H1.out _).mono ?_
        rintro e w' ⟨rfl, hbn⟩
        have hb := hb.trans hbn
        clear hbn
        simp only [hv]
        go_wp2_with fail
        go_ret
        exact ⟨by rw [HF.out]; rfl, hb⟩
      · go_wp2_with fail
        refine (H1.out _).mono ?_
        rintro e w' ⟨rfl, hbn⟩
        have hb := hb.trans hbn
        clear hbn
        simp only [hv]
        go_wp2_with fail
        first | exact ⟨⟨k + 1, by omega, by go_num, hb, by show _ = _; rw [all_one _ E1.out, he.out, hv]; rfl⟩, by simp [intOf]; omega⟩ | (refine ⟨?_, by simp [intOf]; omega⟩; (repeat apply Exists.intro); exact ⟨⟨k + 1, by omega, by go_num, hb, by show _ = _; rw [all_one _ E1.out, he.out, hv]; rfl⟩, rfl⟩)
    · have e : k = n := by omega
      subst e
      have H1 := Lib.hid (fun w => same_bl (l1In_any (k : Int) 2 5 w))
      have HF : Hid (poolsOk l = inB k 2 5) := by
        show _ = _
        have := he.out
        rw [take_all HL.out] at this
        rw [poolsOk, HL.out, this, Bool.and_true]
      go_wp2_with fail
      refine (H1.out _).mono ?_
      rintro e w' ⟨rfl, hbn⟩
      have hb := hb.trans hbn
      clear hbn
      go_wp2_with fail
      go_ret
      exact ⟨by rw [HF.out]; rfl, hb⟩
set_option maxHeartbeats 400000 in
theorem specArePools_any (A : Option Addr) (n c : Nat) (l : List Pool) (w : World) (h : Sl Pool.cs 3 w A n l) :
    Calls Try.prog 23 #[.slice A n c] w fun e w' => e = .returned (.bool (poolsOk l)) ∧ Bl w w' := by
  have H1 := Lib.hid (l11List_any A n c l w h)
  go_enter Try.func23, Try.ntmps23
  go_wp2_with fail
  refine H1.out.mono ?_
  rintro e w' ⟨rfl, hb⟩
  go_wp2_with fail
  go_ret
  exact ⟨rfl, hb⟩
/-- A predicate of pools handed over as a function value. -/
def PredP (g : FuncId) (f : Pool → Bool) : Prop := ∀ (p : Pool) (w : World), Calls Try.prog g #[p.val] w fun e w' => e = .returned (.bool (f p)) ∧ Bl w w'
set_option maxHeartbeats 400000 in
theorem indexFunc_any (g : FuncId) (f : Pool → Bool) (hf : PredP g f) (heg : Enters Try.prog g) (A : Option Addr) (n c : Nat) (l : List Pool) (w : World) (h : Sl Pool.cs 3 w A n l) :
    Calls Try.prog 81 #[.slice A n c, .func (.func g) #[] #[]] w fun e w' => (∃ i : Int, e = .returned (.int .i64 i) ∧ decide (0 ≤ i) = l.any f) ∧ Bl w w' := by
  have bn := h.le
  have HL := Lib.hid h.1
  have eg : ∀ args w, (callFunc g args).run Try.prog w = .ok (.enter g args) w := heg
  clear heg
  go_enter Try.func81, Try.ntmps81
  go_wp2
  go_loopw [8] (fun i wr => ∃ k : Nat, k ≤ n ∧ i = .int .i64 k ∧ Bl w wr ∧ Hid ((l.take k).any f = false)) (fun i _ => n - (intOf i).toNat)
  case atStart => exact ⟨0, Nat.zero_le _, rfl, Bl.refl _, rfl⟩
  case round =>
    obtain ⟨k, hk, rfl, hb, he⟩ := hrel
    by_cases hlt : k < n
    · obtain ⟨b1, o1, p1, rfl, e1, c11, c12, c13⟩ := h.Pool hlt
      have E1 := Lib.hid e1; clear e1
      have H1 := Lib.hid (fun w => hf p1 w)
      cases hv : f p1
      · go_wp2_with fail
        refine (H1.out _).mono ?_
        rintro e w' ⟨rfl, hbn⟩
        have hb := hb.trans hbn
        clear hbn
        simp only [hv]
        go_wp2_with fail
        first | exact ⟨⟨k + 1, by omega, by go_num, hb, by show _ = _; rw [take_one E1.out, List.any_append, he.out]; simp [hv]⟩, by simp [intOf]; omega⟩ | (refine ⟨?_, by simp [intOf]; omega⟩; (repeat apply Exists.intro); exact ⟨⟨k + 1, by omega, by go_num, hb, by show _ = _; rw [take_one E1.out, List.any_append, he.out]; simp [hv]⟩, rfl⟩)
      · go_wp2_with fail
        refine (H1.out _).mono ?_
        rintro e w' ⟨rfl, hbn⟩
        have hb := hb.trans hbn
        clear hbn
        simp only [hv]
        go_wp2_with fail
        go_ret
        exact ⟨⟨k, rfl, by rw [List.any_eq_true.2 ⟨p1, List.mem_of_getElem? E1.out, hv⟩]; simp⟩, hb⟩
    · have e : k = n := by omega
      subst e
      go_wp2_with fail
      go_ret
      exact ⟨⟨-1, rfl, by have := he.out; rw [take_all HL.out] at this; rw [this]; rfl⟩, hb⟩
set_option maxHeartbeats 400000 in
theorem containsFunc_any (g : FuncId) (f : Pool → Bool) (hf : PredP g f) (heg : Enters Try.prog g) (A : Option Addr) (n c : Nat) (l : List Pool) (w : World) (h : Sl Pool.cs 3 w A n l) :
    Calls Try.prog 62 #[.slice A n c, .func (.func g) #[] #[]] w fun e w' => e = .returned (.bool (l.any f)) ∧ Bl w w' := by
  go_enter Try.func62, Try.ntmps62
  go_wp2_with fail
  refine (indexFunc_any g f hf heg A n c l _ h).mono ?_
  rintro e w' ⟨⟨i, rfl, hi⟩, hb⟩
  have HI := Lib.hid hi; clear hi
  go_wp2_with fail
  go_ret
  exact ⟨by rw [← HI.out]; rfl, hb⟩
set_option maxHeartbeats 400000 in
theorem arePoolsFn_any : PredP 63 (fun p => !validPool p) := by
  intro p w
  have H1 := Lib.hid (fun w => implIsValidPool_any p w)
  cases hv : validPool p
  all_goals
    obtain ⟨a, b, c⟩ := p
    simp only [Pool.val] at H1 ⊢
    have F00 : ∀ W, Bl (w.alloc (.cells #[.int .i64 a, .int .i64 b, .int .i64 c] 25)) W → W.cell? ⟨w.heap.size, 0, none⟩ = some (.int .i64 a) := Bl.all (by go_simp)
    have F01 : ∀ W, Bl (w.alloc (.cells #[.int .i64 a, .int .i64 b, .int .i64 c] 25)) W → W.cell? ⟨w.heap.size, 1, none⟩ = some (.int .i64 b) := Bl.all (by go_simp)
    have F02 : ∀ W, Bl (w.alloc (.cells #[.int .i64 a, .int .i64 b, .int .i64 c] 25)) W → W.cell? ⟨w.heap.size, 2, none⟩ = some (.int .i64 c) := Bl.all (by go_simp)
    have hb := Bl.refl (w.alloc (.cells #[.int .i64 a, .int .i64 b, .int .i64 c] 25))
    have hb0 : Hid (Bl w (w.alloc (.cells #[.int .i64 a, .int .i64 b, .int .i64 c] 25))) := (Bl.refl w).alloc _
    go_enter Try.func63, Try.ntmps63
    go_wp2_with fail
    refine (H1.out _).mono ?_
    rintro e w' ⟨rfl, hbn⟩
    have hb := hb.trans hbn
    clear hbn
    simp only [hv]
    go_wp2_with fail
    go_ret
    exact ⟨by rw [hv]; rfl, hb0.out.trans hb⟩
set_option maxHeartbeats 400000 in
theorem arePools_any (A : Option Addr) (n c : Nat) (l : List Pool) (w : World) (h : Sl Pool.cs 3 w A n l) :
    Calls Try.prog 25 #[.slice A n c] w fun e w' => e = .returned (.bool (poolsOk l)) ∧ Bl w w' := by
  have bn := h.le
  have HL := Lib.hid h.1
  have H1 := Lib.hid (fun w => same_bl (inside_any (n : Int) 2 5 w))
  have hb := Bl.refl w
  cases h1 : inB n 2 5
  · have HR : Hid (poolsOk l = false) := by show _ = _; rw [poolsOk, HL.out, h1]; rfl
    go_enter Try.func25, Try.ntmps25
    go_wp2_with fail
    refine (H1.out _).mono ?_
    rintro e w' ⟨rfl, hbn⟩
    have hb := hb.trans hbn
    clear hbn
    simp only [h1]
    go_wp2_with fail
    go_ret
    exact ⟨by rw [HR.out]; rfl, hb⟩
  · have HR : Hid (poolsOk l = !(l.any fun p => !validPool p)) := by show _ = _; rw [any_not, poolsOk, HL.out, h1]; simp
    go_enter Try.func25, Try.ntmps25
    go_wp2_with fail
    refine (H1.out _).mono ?_
    rintro e w' ⟨rfl, hbn⟩
    have hb := hb.trans hbn
    clear hbn
    simp only [h1]
    go_wp2_with fail
    refine (containsFunc_any _ _ arePoolsFn_any (enters_of Try.func63 (by kernel_rfl) rfl) A n c l _ (h.bl hb)).mono ?_
    rintro e w2 ⟨rfl, hb2⟩
    have hb := hb.trans hb2
    go_wp2_with fail
    go_ret
    exact ⟨by rw [HR.out]; rfl, hb⟩
/-! ### water -/
def waterOf (l : List Pool) : Int := (l.map (·.Water)).sum
def allWater (l : List Pool) : Int × Bool := if poolsOk l = true then (waterOf l, true) else (0, false)
theorem len_ok {l : List Pool} (h : poolsOk l = true) : 2 ≤ l.length ∧ l.length ≤ 5 := by
  simp only [poolsOk, Bool.and_eq_true, inB_iff] at h; omega
theorem at_ok {l : List Pool} (h : poolsOk l = true) {k : Nat} {p : Pool} (hk : l[k]? = some p) : validPool p = true := by
  simp only [poolsOk, Bool.and_eq_true, List.all_eq_true] at h
  exact h.2 p (List.mem_of_getElem? hk)
theorem water_one {l : List Pool} {k : Nat} {p : Pool} (h : l[k]? = some p) : waterOf (l.take (k + 1)) = waterOf (l.take k) + p.Water := by
  rw [take_one h]; simp [waterOf]
theorem water_lo {l : List Pool} (h : l.all validPool = true) : 0 ≤ waterOf l ∧ waterOf l ≤ 100000 * l.length := by
  induction l with
  | nil => simp [waterOf]
  | cons p l ih =>
    simp only [List.all_cons, Bool.and_eq_true] at h
    have := ih h.2
    have hp := h.1
    simp only [validPool, Bool.and_eq_true, inB_iff] at hp
    simp only [waterOf, List.map_cons, List.sum_cons, List.length_cons] at *
    omega
theorem all_take {l : List Pool} (h : l.all validPool = true) (k : Nat) : (l.take k).all validPool = true := by
  rw [List.all_eq_true] at *; exact fun x hx => h x (List.mem_of_mem_take hx)
theorem water_bd {l : List Pool} (h : poolsOk l = true) (k : Nat) : 0 ≤ waterOf (l.take k) ∧ waterOf (l.take k) ≤ 500000 := by
  have hl := len_ok h
  have := water_lo (all_take (by simp only [poolsOk, Bool.and_eq_true] at h; exact h.2) k : (l.take k).all validPool = true)
  have : (l.take k).length ≤ l.length := by rw [List.length_take]; omega
  omega
set_option maxHeartbeats 400000 in
theorem specAllWater_any (A : Option Addr) (n c : Nat) (l : List Pool) (w : World) (h : Sl Pool.cs 3 w A n l) :
    Calls Try.prog 27 #[.slice A n c] w fun e w' => e = .returned (.tuple #[.int .i64 (allWater l).1, .bool (allWater l).2]) ∧ Bl w w' := by
  have H1 := Lib.hid (fun w h => l11List_any A n c l w h)
  have bn := h.le
  have hb := Bl.refl w
  have HL := Lib.hid h.1
  cases h1 : poolsOk l
  · have HR : Hid (allWater l = (0, false)) := by show _ = _; simp [allWater, h1]
    go_enter Try.func27, Try.ntmps27
    go_wp2_with fail
    refine (H1.out _ h).mono ?_
    rintro e w' ⟨rfl, hb⟩
    simp only [h1]
    go_wp2_with fail
    go_ret2
    exact ⟨by rw [HR.out]; rfl, hb⟩
  · have HR : Hid (allWater l = (waterOf l, true)) := by show _ = _; simp [allWater, h1]
    go_enter Try.func27, Try.ntmps27
    go_wp2_with fail
    refine (H1.out _ h).mono ?_
    rintro e w1 ⟨rfl, hb1⟩
    simp only [h1]
    go_wp2_with fail
    go_loopw [4, 5] (fun u i wr => ∃ k : Nat, k ≤ n ∧ i = .int .i64 k ∧ Bl w wr ∧ u = .int .i64 (waterOf (l.take k))) (fun _ i _ => n - (intOf i).toNat)
    case atStart => exact ⟨0, Nat.zero_le _, rfl, hb1, rfl⟩
    case round =>
      obtain ⟨k, hk, rfl, hb, rfl⟩ := hrel
      obtain ⟨b0, b1⟩ := water_bd h1 k
      by_cases hlt : k < n
      · obtain ⟨b1, o1, p1, rfl, e1, c11, c12, c13⟩ := h.Pool hlt
        have ok := ok_of_valid (at_ok h1 e1)
        have w0 := ok.w0
        have w1 := ok.w1
        have HW := Lib.hid (water_one e1)
        clear e1 ok
        go_wp2
        first | exact ⟨⟨k + 1, by omega, by go_num, hb, by rw [HW.out]⟩, by simp [intOf]; omega⟩ | (refine ⟨?_, by simp [intOf]; omega⟩; (repeat apply Exists.intro); exact ⟨⟨k + 1, by omega, by go_num, hb, by rw [HW.out]⟩, rfl⟩)
      · have e : k = n := by omega
        subst e
        have HE := Lib.hid (congrArg waterOf (take_all HL.out))
        go_wp2
        go_ret2
        exact ⟨by rw [HR.out, ← HE.out]; rfl, hb⟩
set_option maxHeartbeats 400000 in
theorem implAllWater_any (A : Option Addr) (n c : Nat) (l : List Pool) (w : World) (h : Sl Pool.cs 3 w A n l) :
    Calls Try.prog 28 #[.slice A n c] w fun e w' => e = .returned (.tuple #[.int .i64 (allWater l).1, .bool (allWater l).2]) ∧ Bl w w' := by
  have H1 := Lib.hid (fun w h => arePools_any A n c l w h)
  have bn := h.le
  have hb := Bl.refl w
  have HL := Lib.hid h.1
  cases h1 : poolsOk l
  · have HR : Hid (allWater l = (0, false)) := by show _ = _; simp [allWater, h1]
    go_enter Try.func28, Try.ntmps28
    go_wp2_with fail
    refine (H1.out _ h).mono ?_
    rintro e w' ⟨rfl, hb⟩
    simp only [h1]
    go_wp2_with fail
    go_ret2
    exact ⟨by rw [HR.out]; rfl, hb⟩
  · have HR : Hid (allWater l = (waterOf l, true)) := by show _ = _; simp [allWater, h1]
    go_enter Try.func28, Try.ntmps28
    go_wp2_with fail
    refine (H1.out _ h).mono ?_
    rintro e w1 ⟨rfl, hb1⟩
    simp only [h1]
    go_wp2_with fail
    go_loopw [4, 12] (fun u i wr => ∃ k : Nat, k ≤ n ∧ i = .int .i64 k ∧ Bl w wr ∧ u = .int .i64 (waterOf (l.take k))) (fun _ i _ => n - (intOf i).toNat)
    case atStart => exact ⟨0, Nat.zero_le _, rfl, hb1, rfl⟩
    case round =>
      obtain ⟨k, hk, rfl, hb, rfl⟩ := hrel
      obtain ⟨b0, b1⟩ := water_bd h1 k
      by_cases hlt : k < n
      · obtain ⟨b1, o1, p1, rfl, e1, c11, c12, c13⟩ := h.Pool hlt
        have ok := ok_of_valid (at_ok h1 e1)
        have w0 := ok.w0
        have w1 := ok.w1
        have HW := Lib.hid (water_one e1)
        clear e1 ok
        go_wp2
        first | exact ⟨⟨k + 1, by omega, by go_num, by exact hb.alloc _, by rw [HW.out]⟩, by simp [intOf]; omega⟩ | (refine ⟨?_, by simp [intOf]; omega⟩; (repeat apply Exists.intro); exact ⟨⟨k + 1, by omega, by go_num, by exact hb.alloc _, by rw [HW.out]⟩, rfl⟩)
      · have e : k = n := by omega
        subst e
        have HE := Lib.hid (congrArg waterOf (take_all HL.out))
        go_wp2
        go_ret2
        exact ⟨by rw [HR.out, ← HE.out]; rfl, hb⟩
end Go.Proofs.Yteejalanjeeecaa
