/- The contracts of the order by minutes and Ids: the program's way, by sorting. -/
import Derived.Test.YtnckpionabokeaaSort
import Derived.Test.YtnckpionabokeaaC8b
namespace Go.Proofs.Ytnckpionabokeaa
open Go.RowKit
set_option maxRecDepth 100000 in
set_option maxHeartbeats 2000000 in
theorem insSort0_any (gf : FuncId) (cap : Value) (g c : Nat) (w : World) :
    Calls Try.prog 90 #[.slice (some ⟨g, 0, none⟩) 0 c, .int .i64 0, .int .i64 0, .func (.func gf) #[] #[cap]] w fun e w' => e = .returned (.tuple #[]) ∧ w = w' := by
  go_enter Try.func90, Try.ntmps90
  go_wp2_with fail
  refine wp_loop_rounds 1 ?_
  rw [rounds_succ]
  go_wp2_with fail
  go_end0
  exact ⟨rfl, rfl⟩
set_option maxRecDepth 100000 in
set_option maxHeartbeats 2000000 in
theorem pdq_any (a : World) (gf : FuncId) (cap : Value) (l : List Arrival) (n : Nat) (lim : Int) (hf : CmpFn a gf cap l n) (heg : Enters Try.prog gf) (g c B : Nat) (w : World) (hb : Bl a w) (hB : a.heap.size ≤ B) (ho : w.ownsRow B 3 1 (.slice (some ⟨g, 0, none⟩) n c) n ((restI 0 n).flatMap ci)) (hn : n ≤ 6) :
    Calls Try.prog 87 #[.slice (some ⟨g, 0, none⟩) n c, .int .i64 0, .int .i64 n, .int .i64 lim, .func (.func gf) #[] #[cap]] w fun e w' => e = .returned (.tuple #[]) ∧ Bl a w' ∧ w'.ownsRow B 3 1 (.slice (some ⟨g, 0, none⟩) n c) n ((fcK l n).flatMap ci) := by
  have H1 : Hid (Calls Try.prog 90 #[.slice (some ⟨g, 0, none⟩) n c, .int .i64 0, .int .i64 n, .func (.func gf) #[] #[cap]] w fun e w' => e = .returned (.tuple #[]) ∧ Bl a w' ∧ w'.ownsRow B 3 1 (.slice (some ⟨g, 0, none⟩) n c) n ((fcK l n).flatMap ci)) := by
    show Calls _ _ _ _ _
    rcases Nat.eq_zero_or_pos n with h0 | h0
    · subst h0
      exact (insSort0_any gf cap g c w).mono fun e w' h => ⟨h.1, by rw [← h.2]; exact hb, by rw [← h.2]; exact ho⟩
    · exact insSort_any a gf cap l n hf heg g c B w hb hB ho h0 hn
  have k1 : decide ((n : Int) ≤ 12) = true := by simp; omega
  clear hf heg ho
  go_enter Try.func87, Try.ntmps87
  go_wp2_with fail
  refine wp_loop_rounds 1 ?_
  rw [rounds_succ]
  go_wp2_with fail
  refine H1.out.mono ?_
  rintro e w1 ⟨rfl, hb1, ho1⟩
  go_wp2_with fail
  (try simp only [Exit.inBlock, Exit.then])
  refine bodyPost_ret (v := .tuple #[]) ?_ ?_ ?_
  · exact results_none (fn := Try.f87) rfl _ _ _
  · rfl
  · exact ⟨rfl, hb1, ho1⟩
set_option maxRecDepth 100000 in
set_option maxHeartbeats 2000000 in
theorem sortFunc_any (a : World) (gf : FuncId) (cap : Value) (l : List Arrival) (n : Nat) (hf : CmpFn a gf cap l n) (heg : Enters Try.prog gf) (g c B : Nat) (w : World) (hb : Bl a w) (hB : a.heap.size ≤ B) (ho : w.ownsRow B 3 1 (.slice (some ⟨g, 0, none⟩) n c) n ((restI 0 n).flatMap ci)) (hn : n ≤ 6) :
    Calls Try.prog 80 #[.slice (some ⟨g, 0, none⟩) n c, .func (.func gf) #[] #[cap]] w fun e w' => e = .returned (.tuple #[]) ∧ Bl a w' ∧ w'.ownsRow B 3 1 (.slice (some ⟨g, 0, none⟩) n c) n ((fcK l n).flatMap ci) := by
  have H1 := Lib.hid (fun lim => pdq_any a gf cap l n lim hf heg g c B w hb hB ho hn)
  have H2 := Lib.hid (fun w => lenB_any (n : Int) (by omega) w)
  clear hf heg ho
  go_enter Try.func80, Try.ntmps80
  go_wp2_with fail
  refine (H2.out _).mono ?_
  rintro e w1 ⟨⟨v, rfl⟩, rfl⟩
  go_wp2_with fail
  refine (H1.out _).mono ?_
  rintro e w1 ⟨rfl, hb1, ho1⟩
  go_wp2_with fail
  go_end0
  exact ⟨rfl, hb1, ho1⟩
set_option maxHeartbeats 1000000 in
theorem firstFn_any (a : World) (A : Option Addr) (n c bx : Nat) (l : List Arrival) (h : Sl Arrival.cs 4 a A n l) (hc : ∀ W, Bl a W → W.cell? ⟨bx, 0, none⟩ = some (.slice A n c)) : CmpFn a 81 (.pointer (some ⟨bx, 0, none⟩)) l n := by
  intro x y hx hy W hW
  obtain ⟨b1, o1, p, rfl, ep, p1, p2, p3, p4⟩ := h.Arrival hx
  obtain ⟨b2, o2, q, hA2, eq, q1, q2, q3, q4⟩ := h.Arrival hy
  injection hA2 with hA2; injection hA2 with hA2 hA2'; subst hA2 hA2'
  rw [arrAtI_nat ep, arrAtI_nat eq]
  have HF := Lib.hid (fun V => compareArrivals_any p q V)
  have P1 : ∀ V, Bl W V → V.cell? ⟨b1, o1 + x * 4, none⟩ = _ := fun V hV => p1 V (hW.trans hV)
  have P2 : ∀ V, Bl W V → V.cell? ⟨b1, o1 + x * 4 + 1, none⟩ = _ := fun V hV => p2 V (hW.trans hV)
  have P3 : ∀ V, Bl W V → V.cell? ⟨b1, o1 + x * 4 + 2, none⟩ = _ := fun V hV => p3 V (hW.trans hV)
  have P4 : ∀ V, Bl W V → V.cell? ⟨b1, o1 + x * 4 + 3, none⟩ = _ := fun V hV => p4 V (hW.trans hV)
  have Q1 : ∀ V, Bl W V → V.cell? ⟨b1, o1 + y * 4, none⟩ = _ := fun V hV => q1 V (hW.trans hV)
  have Q2 : ∀ V, Bl W V → V.cell? ⟨b1, o1 + y * 4 + 1, none⟩ = _ := fun V hV => q2 V (hW.trans hV)
  have Q3 : ∀ V, Bl W V → V.cell? ⟨b1, o1 + y * 4 + 2, none⟩ = _ := fun V hV => q3 V (hW.trans hV)
  have Q4 : ∀ V, Bl W V → V.cell? ⟨b1, o1 + y * 4 + 3, none⟩ = _ := fun V hV => q4 V (hW.trans hV)
  have HC : ∀ V, Bl W V → V.cell? ⟨bx, 0, none⟩ = some (.slice (some ⟨b1, o1, none⟩) n c) := fun V hV => hc V (hW.trans hV)
  have bn := h.le
  clear p1 p2 p3 p4 q1 q2 q3 q4 hc ep eq h
  generalize cmpArr p q = z at *
  go_enter Try.func81, Try.ntmps81
  go_wp2_with fail
  refine region_bl (by kernel_rfl) (by kernel_rfl) (Bl.refl W) ?_
  repeat' (first | go_big_quiet_skip | (go_big_quiet_want; go_simp; (try go_bits); first | (refine ⟨_, fun _ _ => rfl, ?_⟩; go_big_quiet_on) | (apply Exists.intro; (with_reducible refine ⟨fun W hW => ret_bl hW (HF.out W), ?_⟩); go_big_quiet_on) | (apply Exists.intro; refine ⟨fun W hW => ?_, ?_⟩; (· go_simp; (try go_bits); rfl); go_big_quiet_on)))
  apply wpQuiet_nil
  intro W hb
  go_wp2_with fail
  go_ret
  exact ⟨rfl, hb⟩
set_option maxHeartbeats 2000000 in
theorem firstCome_any (A : Option Addr) (n c : Nat) (l : List Arrival) (w : World) (h : Sl Arrival.cs 4 w A n l) (hn : n ≤ 6) :
    Calls Try.prog 65 #[.slice A n c] w (NewRes ci 1 3 (fcK l n) (fun v => v) w) := by
  have bn := h.le
  have F00 : ∀ W, Bl (w.alloc (.cells #[.slice A n c] 25)) W → W.cell? ⟨w.heap.size, 0, none⟩ = some (.slice A n c) := Bl.all (by go_simp)
  have hb := Bl.refl (w.alloc (.cells #[.slice A n c] 25))
  have hb0 : Hid (Bl w (w.alloc (.cells #[.slice A n c] 25))) := (Bl.refl w).alloc _
  have HF := Lib.hid (firstFn_any (w.alloc (.cells #[.slice A n c] 25)) A n c w.heap.size l (h.bl hb0.out) F00)
  have F0 := F00 _ hb
  have hsz : (w.alloc (.cells #[.slice A n c] 25)).heap.size = w.heap.size + 1 := by simp
  have hmade := World.ownsRow_made (e := 3) (size := 1) (w.alloc (.cells #[.slice A n c] 25)) #[] 0 (Nat.le_refl _) (Nat.zero_le _) (by simp)
  rw [hsz] at hmade
  have hb1 := hb.alloc (.cells #[] 3)
  have F1 := F00 _ hb1
  go_enter Try.func65, Try.ntmps65
  go_wp2_with fail
  go_loopw [3, 8] (fun u i wr => ∃ (k : Nat) (g : Nat) (c2 : Nat), k ≤ n ∧ i = .int .i64 k ∧ u = .slice (some ⟨g, 0, none⟩) k c2 ∧ Bl (w.alloc (.cells #[.slice A n c] 25)) wr ∧ wr.ownsRow (w.heap.size + 1) 3 1 (.slice (some ⟨g, 0, none⟩) k c2) k ((restI 0 k).flatMap ci)) (fun _ i _ => n - (intOf i).toNat)
  case atStart => exact ⟨0, _, 0, Nat.zero_le _, rfl, rfl, hb1, hmade⟩
  case round =>
    clear hb1 hmade F1 F0 hb
    obtain ⟨k, g, c2, hk, rfl, rfl, hb, hor⟩ := hrel
    have hle := hb.le
    rw [hsz] at hle
    by_cases hlt : k < n
    · obtain ⟨i0, hi0, hz0, hz1, hz2⟩ := info_parts infoInt
      go_wp2_with (at_builtin; refine wpList_append_one _ rfl _ _ _ rfl _ 3 i0 _ 1 8 Try.underlying31 hi0 hz0 hz1 hz2 rfl (by omega) ci_len ci_one _ k (restI 0 k) rfl (k : Int) _ rfl (by first | rfl | simp) _ rfl hor hle (by unfold maxLen; omega) (by omega) ?_)
      clear hi0 hz0 hz1 hz2
      intro C5 d5 w5 ho5 hg5
      rcases own_forms ho5 with ⟨rfl, h0, _, _⟩ | ⟨g5, rfl⟩
      · omega
      have HO5 := Lib.hid ho5
      clear ho5
      have hb5 := Bl.row hb (by rw [hsz]; exact Nat.le_refl _) hor hg5
      go_wp2_with fail
      first | exact ⟨⟨k + 1, g5, d5, by omega, by go_num, rfl, hb5, by rw [restI_snoc, List.flatMap_append]; exact HO5.out⟩, by simp [intOf]; omega⟩ | (refine ⟨?_, by simp [intOf]; omega⟩; (repeat apply Exists.intro); exact ⟨⟨k + 1, g5, d5, by omega, by go_num, rfl, hb5, by rw [restI_snoc, List.flatMap_append]; exact HO5.out⟩, rfl⟩)
    · have e : k = n := by omega
      subst e
      go_wp2_with fail
      refine (sortFunc_any _ _ _ l k HF.out (enters_of Try.func81 (by kernel_rfl) rfl) g c2 _ wr hb (by rw [hsz]; exact Nat.le_refl _) hor hn).mono ?_
      rintro e w5 ⟨rfl, hb5, ho5⟩
      go_wp2_with fail
      go_ret
      exact NewRes.of_own (F := fun v => v) (own_mono ho5 (by omega)) (fcK_len l k) (by omega) (hb0.out.trans hb5)
end Go.Proofs.Ytnckpionabokeaa
