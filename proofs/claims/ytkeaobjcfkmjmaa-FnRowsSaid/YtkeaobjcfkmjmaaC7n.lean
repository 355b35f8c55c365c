/- The contracts of what a row of cargo with cells is. -/
import Derived.Test.YtkeaobjcfkmjmaaC7f
import Derived.Test.YtkeaobjcfkmjmaaTb
namespace Go.Proofs.Ytkeaobjcfkmjmaa
open Go.RowKit
def cellsOk (cs : List Int) : Bool := cs.all fun x => inB x 0 200
def rowOk (l : List Cargo) (cs : List Int) : Bool := cellsOk cs && (cargoOk l && decide (cs.length = l.length))
theorem cells_take {cs : List Int} {k : Nat} {x : Int} (h : cs[k]? = some x) : cellsOk (cs.take (k + 1)) = (cellsOk (cs.take k) && inB x 0 200) := by
  rw [take_one h]; simp [cellsOk]
theorem cells_no {cs : List Int} {k : Nat} {x : Int} (h : cs[k]? = some x) (g : inB x 0 200 = false) : cellsOk cs = false := by
  rw [cellsOk, List.all_eq_false]
  exact ⟨x, List.mem_of_getElem? h, by simp [g]⟩
theorem row_no {l : List Cargo} {cs : List Int} (g : cellsOk cs = false) : rowOk l cs = false := by rw [rowOk, g]; rfl
/-- A predicate of Int handed over as a function value. -/
def PredInt (g : FuncId) (f : Int → Bool) : Prop := ∀ (p : Int) (w : World), Calls Try.prog g #[.int .i64 p] w fun e w' => e = .returned (.bool (f p)) ∧ Bl w w'
set_option maxHeartbeats 400000 in
theorem indexFuncInt_any (g : FuncId) (f : Int → Bool) (hf : PredInt g f) (heg : Enters Try.prog g) (A : Option Addr) (n c : Nat) (l : List Int) (w : World) (h : Sl ci 1 w A n l) :
    Calls Try.prog 90 #[.slice A n c, .func (.func g) #[] #[]] w fun e w' => (∃ i : Int, e = .returned (.int .i64 i) ∧ decide (0 ≤ i) = l.any f) ∧ Bl w w' := by
  have bn := h.le
  have HL := Lib.hid h.1
  have eg : ∀ args w, (callFunc g args).run Try.prog w = .ok (.enter g args) w := heg
  clear heg
  go_enter Try.func90, Try.ntmps90
  go_wp2
  go_loopw [8] (fun i wr => ∃ k : Nat, k ≤ n ∧ i = .int .i64 k ∧ Bl w wr ∧ Hid ((l.take k).any f = false)) (fun i _ => n - (intOf i).toNat)
  case atStart => exact ⟨0, Nat.zero_le _, rfl, Bl.refl _, rfl⟩
  case round =>
    obtain ⟨k, hk, rfl, hb, he⟩ := hrel
    by_cases hlt : k < n
    · obtain ⟨b1, o1, p1, rfl, e1, c11⟩ := h.int hlt
      have E1 := Lib.hid e1; clear e1
      have H1 := Lib.hid (fun w => hf p1 w)
      cases hv : f p1
      · go_wp2_with fail
        refine (H1.out _).mono ?_
        rintro e w' ⟨rfl, hbn⟩
        have hb := hb.trans hbn
        clear hbn
        simp only [hv]
        go_wp2_with fail
        first | exact ⟨⟨k + 1, by omega, by go_num, hb, by show _ = _; rw [take_one E1.out, List.any_append, he.out]; simp [hv]⟩, by simp [intOf]; omega⟩ | (refine ⟨?_, by simp [intOf]; omega⟩; (repeat apply Exists.intro); exact ⟨⟨k + 1, by omega, by go_num, hb, by show _ = _; rw [take_one E1.out, List.any_append, he.out]; simp [hv]⟩, rfl⟩)
      · go_wp2_with fail
        refine (H1.out _).mono ?_
        rintro e w' ⟨rfl, hbn⟩
        have hb := hb.trans hbn
        clear hbn
        simp only [hv]
        go_wp2_with fail
        go_ret
        exact ⟨⟨k, rfl, by rw [List.any_eq_true.2 ⟨p1, List.mem_of_getElem? E1.out, hv⟩]; simp⟩, hb⟩
    · have e : k = n := by omega
      subst e
      go_wp2_with fail
      go_ret
      exact ⟨⟨-1, rfl, by have := he.out; rw [take_all HL.out] at this; rw [this]; rfl⟩, hb⟩
set_option maxHeartbeats 400000 in
theorem containsFuncInt_any (g : FuncId) (f : Int → Bool) (hf : PredInt g f) (heg : Enters Try.prog g) (A : Option Addr) (n c : Nat) (l : List Int) (w : World) (h : Sl ci 1 w A n l) :
    Calls Try.prog 78 #[.slice A n c, .func (.func g) #[] #[]] w fun e w' => e = .returned (.bool (l.any f)) ∧ Bl w w' := by
  go_enter Try.func78, Try.ntmps78
  go_wp2_with fail
  refine (indexFuncInt_any g f hf heg A n c l _ h).mono ?_
  rintro e w' ⟨⟨i, rfl, hi⟩, hb⟩
  have HI := Lib.hid hi; clear hi
  go_wp2_with fail
  go_ret
  exact ⟨by rw [← HI.out]; rfl, hb⟩
set_option maxHeartbeats 400000 in
theorem unsafeFn_any : PredInt 79 (fun x => !inB x 0 200) := by
  intro x w
  have H1 := Lib.hid (fun w => inside_any x 0 200 w)
  go_enter Try.func79, Try.ntmps79
  go_wp2_with fail
  refine (H1.out _).mono ?_
  rintro e w' ⟨rfl, rfl⟩
  go_wp2_with fail
  go_ret
  exact ⟨rfl, Bl.refl _⟩
set_option maxHeartbeats 1000000 in
theorem l7Cells_any (A C : Option Addr) (n c p f : Nat) (l : List Cargo) (cs : List Int) (w : World) (h : Sl Cargo.cs 3 w A n l) (hc : Sl ci 1 w C p cs) :
    Calls Try.prog 71 #[.slice A n c, .slice C p f] w fun e w' => e = .returned (.bool (rowOk l cs)) ∧ Bl w w' := by
  have bn := hc.le
  have HL := Lib.hid h.1
  have HC := Lib.hid hc.1
  have H1 := Lib.hid (fun x W => l1In_any x 0 200 W)
  have H2 := Lib.hid (l7Good_any A n c l w h)
  go_enter Try.func71, Try.ntmps71
  go_wp2_with fail
  go_loopw [5] (fun i wr => ∃ k : Nat, k ≤ p ∧ i = .int .i64 k ∧ wr = w ∧ Hid (cellsOk (cs.take k) = true)) (fun i _ => p - (intOf i).toNat)
  case atStart => exact ⟨0, Nat.zero_le _, rfl, rfl, rfl⟩
  case round =>
    obtain ⟨k, hk, rfl, rfl, ht⟩ := hrel
    by_cases hlt : k < p
    · obtain ⟨p1, o1, x, rfl, e1, c1⟩ := hc.int hlt
      have f1 := c1 _ (Bl.refl _)
      have E1 := Lib.hid e1
      clear e1 c1
      go_wp2_with fail
      refine (H1.out _ _).mono ?_
      rintro e w' ⟨rfl, rfl⟩
      cases hx : inB x 0 200
      · have HR := Lib.hid (row_no (l := l) (cells_no E1.out hx))
        clear hx
        go_wp2_with fail
        go_ret
        exact ⟨by rw [HR.out]; rfl, Bl.refl _⟩
      · have HT : Hid (cellsOk (cs.take (k + 1)) = true) := by show _ = _; rw [cells_take E1.out, ht.out, hx]; rfl
        clear hx
        go_wp2_with fail
        first | exact ⟨⟨k + 1, by omega, by go_num, by simp, HT⟩, by simp [intOf]; omega⟩ | (refine ⟨?_, by simp [intOf]; omega⟩; (repeat apply Exists.intro); exact ⟨⟨k + 1, by omega, by go_num, by simp, HT⟩, rfl⟩)
    · have e : k = p := by omega
      subst e
      have HR : Hid (rowOk l cs = (cargoOk l && decide ((k : Int) = (n : Int)))) := by
        show _ = _
        have h1 := ht.out
        rw [take_all HC.out] at h1
        rw [rowOk, h1, HC.out, HL.out, Bool.true_and]
        congr 1
        by_cases h2 : k = n
        · simp [h2]
        · have h3 : ¬ (k : Int) = (n : Int) := by omega
          simp [h2, h3]
      clear ht
      generalize cargoOk l = q at HR H2
      go_wp2_with fail
      refine H2.out.mono ?_
      rintro e w' ⟨rfl, hb⟩
      cases q
      · go_wp2_with fail
        go_ret
        exact ⟨by rw [HR.out]; rfl, hb⟩
      · go_wp2_with fail
        go_ret
        exact ⟨by rw [HR.out]; simp; first | rfl | (by_cases h2 : k = n <;> simp [h2]), hb⟩
theorem cells_at {cs : List Int} (h : cellsOk cs = true) {k : Nat} {x : Int} (hk : cs[k]? = some x) : 0 ≤ x ∧ x ≤ 200 := by
  have := List.all_eq_true.1 h x (List.mem_of_getElem? hk)
  simpa [inB_iff] using this
end Go.Proofs.Ytkeaobjcfkmjmaa
