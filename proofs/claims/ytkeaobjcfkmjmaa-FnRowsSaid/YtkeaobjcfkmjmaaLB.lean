/- A slice of bytes that came in, and the laws' helper on its size. -/
import Derived.Test.YtkeaobjcfkmjmaaLift
import Derived.Test.YtkeaobjcfkmjmaaD1
namespace Go.Proofs.Ytkeaobjcfkmjmaa
open Go.ChangeShapes Go.WideShapes Go.ChangeAt Go.RowKit Go.Deep Go.Joins
theorem sl_of_bytes {H : Type} {enc : TypeId × Value → H} {P : Program} {w : World} {base : Nat} {spare : Nat → Bool} {held : Bool} {t e : TypeId} {A : Option Addr} {n c : Nat} {d : DataW H} {p : List MemPlace} (ht : P.underlying t = some (.slice e)) (he : P.underlying e = some (.int .u8)) (hc : P.cellsOf e = 1)
    (h : DataW.Trod enc P w base spare held t (.slice A n c) d p) : ∃ l : List Int, Sl cb 1 w A n l ∧ Bytes l := by
  obtain ⟨fuel, hf⟩ := h
  rcases open_ints ht he hc hf with ⟨hcs, _⟩ | ⟨a, len, cap, zs, hcs, _, hl, hm, hz, _, hcell, hwf⟩
  · simp [Value.cells] at hcs
    obtain ⟨rfl, rfl, rfl⟩ := hcs
    exact ⟨[], Sl.nil_, fun x hx => by simp at hx⟩
  · simp [Value.cells] at hcs
    obtain ⟨rfl, rfl, rfl⟩ := hcs
    have hle := len_le_m hl hz
    refine ⟨_, Sl.of_fun (f := cb) (fun _ => Nat.one_pos) (fun i => zs.getD i 0) (by unfold maxLen at hm; omega) (fun i hi j u hu => ?_), fun x hx => ?_⟩
    · match j, hu with
      | 0, hu =>
        simp [cb] at hu
        subst hu
        rw [Nat.mul_one]
        simpa using hcell i (by omega)
    · obtain ⟨i, hi, rfl⟩ := List.mem_map.1 hx
      have hi' := List.mem_range.1 hi
      have hiz : i < zs.length := by omega
      have e1 : zs.getD i 0 = zs[i] := by simp [hiz]
      rw [e1]
      have := hwf zs[i] (List.getElem_mem hiz)
      simp [Lit.wf, IntKind.min, IntKind.max, IntKind.signed, IntKind.bits] at this
      omega
theorem rBig_any (A : Option Addr) (n c : Nat) (w : World) (hn : n ≤ 9223372036854775807) : Calls Try.prog 33 #[.slice A n c] w fun e w' => e = .returned (.bool (decide (65536 < n))) ∧ w = w' := by
  by_cases h : 65536 < n
  · have h' : (65536 : Int) < (n : Int) := by omega
    have e : decide (65536 < n) = true := by simpa using h
    have HE := Lib.hid e
    clear e
    go_enter Try.func33, Try.ntmps33
    go_wp2
    go_ret
    exact ⟨by first | rfl | (rw [HE.out]; rfl), rfl⟩
  · have h' : ¬ (65536 : Int) < (n : Int) := by omega
    have e : decide (65536 < n) = false := by simpa using h
    have HE := Lib.hid e
    clear e
    go_enter Try.func33, Try.ntmps33
    go_wp2
    go_ret
    exact ⟨by first | rfl | (rw [HE.out]; rfl), rfl⟩
end Go.Proofs.Ytkeaobjcfkmjmaa
