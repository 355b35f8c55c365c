/- The contracts of what is drawn of chapter 10: the draws. -/
import Derived.Test.YtpgghmhbkgkkiaaD10
import Derived.Test.YtpgghmhbkgkkiaaQ10b
namespace Go.Proofs.Ytpgghmhbkgkkiaa
open Go.RowKit
/-- Basins. -/
def DrB1 (w : World) (e : Ending) (w' : World) : Prop :=
  ∃ (B : Option Addr) (m d : Nat) (l : List Basin), e = .returned (.slice B m d) ∧ Sl Basin.cs 3 w' B m l ∧ m ≤ 7 ∧ m ≤ d ∧ Bl w w'
/-- Basins, a flow. -/
def DrB2 (w : World) (e : Ending) (w' : World) : Prop :=
  ∃ (B : Option Addr) (m d : Nat) (l : List Basin) (x y t : Int), e = .returned (.tuple #[.slice B m d, .agg #[.int .i64 x, .int .i64 y, .int .i64 t]]) ∧ Sl Basin.cs 3 w' B m l ∧ m ≤ 7 ∧ m ≤ d ∧ (∀ b o s, B = some ⟨b, o, s⟩ → w.heap.size ≤ b) ∧ Bl w w'
/-- Basins, flows. -/
def DrB3 (w : World) (e : Ending) (w' : World) : Prop :=
  ∃ (B : Option Addr) (m d : Nat) (l : List Basin) (C : Option Addr) (p f : Nat) (fs : List Flow), e = .returned (.tuple #[.slice B m d, .slice C p f]) ∧ Sl Basin.cs 3 w' B m l ∧ m ≤ 7 ∧ m ≤ d ∧ Sl Flow.cs 3 w' C p fs ∧ p ≤ 40 ∧ p ≤ f ∧ Bl w w'
/-- Basins, three numbers. -/
def DrB4 (w : World) (e : Ending) (w' : World) : Prop :=
  ∃ (B : Option Addr) (m d : Nat) (l : List Basin) (x y t : Int), e = .returned (.tuple #[.slice B m d, .int .i64 x, .int .i64 y, .int .i64 t]) ∧ Sl Basin.cs 3 w' B m l ∧ m ≤ 7 ∧ m ≤ d ∧ Bl w w'
section
variable (A : Option Addr) (n c : Nat) (code : List Int) (w : World) (hs : Sl cb 1 w A n code) (hby : Bytes code)
include hs hby in
set_option maxHeartbeats 2000000 in
theorem drawAreBasins_any : Calls Try.prog 74 #[.slice A n c] w (DrB1 w) := by
  have HB := Lib.hid (fun W hW => basins_any w w.heap.size A n c 0 code hs hby (by omega) W hW)
  have HC0 : Hid (Cur w w.heap.size A n c 0 (w.alloc (.cells #[.slice A n c, .int .i64 0, .int .u64 0] 85))) := ⟨(Bl.refl w).alloc _, Nat.le_refl _, 0, 0, Nat.le_refl _, heap_alloc_new w _⟩
  clear hs hby
  go_enter Try.func74, Try.ntmps74
  go_wp2_with fail
  refine (HB.out _ HC0.out).mono ?_
  rintro e w1 ⟨B, m, d, l, rfl, hsl, hm, hmd, hne, hd⟩
  have HSL := Lib.hid hsl
  have HD := Lib.hid hd
  clear hsl hd
  go_wp2_with fail
  go_ret
  exact ⟨B, m, d, l, rfl, HSL.out, hm, hmd, HD.out.cur.1⟩
include hs hby in
set_option maxHeartbeats 2000000 in
theorem drawTotalWater_any : Calls Try.prog 50 #[.slice A n c] w (DrB1 w) := by
  have HB := Lib.hid (drawAreBasins_any A n c code w hs hby)
  clear hs hby
  go_enter Try.func50, Try.ntmps50
  go_wp2_with fail
  refine HB.out.mono ?_
  rintro e w1 ⟨B, m, d, l, rfl, hsl, hm, hmd, hb⟩
  go_wp2_with fail
  go_ret
  exact ⟨B, m, d, l, rfl, hsl, hm, hmd, hb⟩
include hs hby in
set_option maxHeartbeats 2000000 in
theorem drawLevelOut_any : Calls Try.prog 52 #[.slice A n c] w (DrB1 w) := by
  have HB := Lib.hid (drawAreBasins_any A n c code w hs hby)
  clear hs hby
  go_enter Try.func52, Try.ntmps52
  go_wp2_with fail
  refine HB.out.mono ?_
  rintro e w1 ⟨B, m, d, l, rfl, hsl, hm, hmd, hb⟩
  go_wp2_with fail
  go_ret
  exact ⟨B, m, d, l, rfl, hsl, hm, hmd, hb⟩
include hs hby in
set_option maxHeartbeats 2000000 in
theorem drawRunFlows_any : Calls Try.prog 46 #[.slice A n c] w (DrB3 w) := by
  have HB := Lib.hid (fun W hW => basins_any w w.heap.size A n c 0 code hs hby (by omega) W hW)
  have HP := Lib.hid (fun k (hk : k ≤ 10000) q (hq : q ≤ 10) W hW => flows_any w w.heap.size A n c k code hs hby hk q hq W hW)
  have HC0 : Hid (Cur w w.heap.size A n c 0 (w.alloc (.cells #[.slice A n c, .int .i64 0, .int .u64 0] 85))) := ⟨(Bl.refl w).alloc _, Nat.le_refl _, 0, 0, Nat.le_refl _, heap_alloc_new w _⟩
  clear hs hby
  go_enter Try.func46, Try.ntmps46
  go_wp2_with fail
  refine (HB.out _ HC0.out).mono ?_
  rintro e w1 ⟨B, m, d, l, rfl, hsl, hm, hmd, hne, hd⟩
  have HSL := Lib.hid hsl
  have HNE := Lib.hid hne
  have HD := Lib.hid hd
  clear hsl hd hne
  go_wp2_with fail
  refine (HP.out _ (by omega) m (by omega) _ HD.out.cur).mono ?_
  rintro e w2 ⟨C, p, f, o, rfl, hso, hp, hpf, hne2, hd⟩
  have HSL := Lib.hid (hd.sl HSL.out (fun b o s e => (HNE.out b o s e).1))
  have HSO := Lib.hid hso
  have HD := Lib.hid (HD.out.trans hd)
  clear hd hso hne2
  go_wp2_with fail
  go_ret2
  exact ⟨B, m, d, l, C, p, f, o, rfl, HSL.out, hm, hmd, HSO.out, hp, hpf, HD.out.cur.1⟩
include hs hby in
set_option maxHeartbeats 2000000 in
theorem drawNetInflow_any : Calls Try.prog 49 #[.slice A n c] w (DrB3 w) := by
  have HB := Lib.hid (drawRunFlows_any A n c code w hs hby)
  clear hs hby
  go_enter Try.func49, Try.ntmps49
  go_wp2_with fail
  refine HB.out.mono ?_
  rintro e w1 ⟨B, m, d, l, C, p, f, o, rfl, hsl, hm, hmd, hso, hp, hpf, hb⟩
  go_wp2_with fail
  go_ret2
  exact ⟨B, m, d, l, C, p, f, o, rfl, hsl, hm, hmd, hso, hp, hpf, hb⟩
include hs hby in
set_option maxHeartbeats 2000000 in
theorem drawRefillNeeded_any : Calls Try.prog 53 #[.slice A n c] w (DrB3 w) := by
  have HB := Lib.hid (drawRunFlows_any A n c code w hs hby)
  clear hs hby
  go_enter Try.func53, Try.ntmps53
  go_wp2_with fail
  refine HB.out.mono ?_
  rintro e w1 ⟨B, m, d, l, C, p, f, o, rfl, hsl, hm, hmd, hso, hp, hpf, hb⟩
  go_wp2_with fail
  go_ret2
  exact ⟨B, m, d, l, C, p, f, o, rfl, hsl, hm, hmd, hso, hp, hpf, hb⟩
include hs hby in
set_option maxHeartbeats 2000000 in
theorem drawIsFlow_any : Calls Try.prog 73 #[.slice A n c] w (DrB2 w) := by
  have HB := Lib.hid (fun W hW => basins_any w (w.heap.size + 1) A n c 0 code hs hby (by omega) W hW)
  have HP := Lib.hid (fun k (hk : k ≤ 10000) q (hq : q ≤ 10) W hW => flow_any w (w.heap.size + 1) A n c k code hs hby (by omega) q hq W hW)
  have HR0 : Hid ((w.alloc (.cells #[.int .i64 0, .int .i64 0, .int .i64 0] 32)).heap[w.heap.size]? = some (.cells #[.int .i64 0, .int .i64 0, .int .i64 0] 32 (0, 0))) := heap_alloc_new w _
  have hz : (w.alloc (.cells #[.int .i64 0, .int .i64 0, .int .i64 0] 32)).heap.size = w.heap.size + 1 := by simp
  have HC0 : Hid (Cur w (w.heap.size + 1) A n c 0 ((w.alloc (.cells #[.int .i64 0, .int .i64 0, .int .i64 0] 32)).alloc (.cells #[.slice A n c, .int .i64 0, .int .u64 0] 85))) := by
    refine ⟨((Bl.refl w).alloc _).alloc _, Nat.le_succ _, 0, 0, Nat.le_refl _, ?_⟩
    rw [← hz]
    exact heap_alloc_new _ _
  have ER := Lib.hid (((Bl.refl _).alloc (.cells #[.slice A n c, .int .i64 0, .int .u64 0] 85)).one HR0.out)
  clear hs hby hz HR0
  go_enter Try.func73, Try.ntmps73
  go_wp2_with fail
  refine (HB.out _ HC0.out).mono ?_
  rintro e w1 ⟨B, m, d, l, rfl, hsl, hm, hmd, hne, hd⟩
  have ER := Lib.hid (hd.blk ER.out (by omega))
  have HSL := Lib.hid hsl
  have HNE := Lib.hid hne
  have HD := Lib.hid hd
  clear hsl hd hne
  go_wp2_with fail
  refine (HP.out _ (by omega) m (by omega) _ HD.out.cur).mono ?_
  rintro e w2 ⟨x, y, t, rfl, hd⟩
  have ER := Lib.hid (hd.blk ER.out (by omega))
  have HSL := Lib.hid (hd.sl HSL.out (fun b o s e => (HNE.out b o s e).1))
  have HFA : Hid (∀ b o s, B = some ⟨b, o, s⟩ → b ≠ w.heap.size) := fun b o s e => by have := (HNE.out b o s e).2; simp at this; omega
  have HFB : Hid (∀ b o s, B = some ⟨b, o, s⟩ → w.heap.size ≤ b) := fun b o s e => by have := (HNE.out b o s e).2; simp at this; omega
  have HBW := Lib.hid (HD.out.trans hd).cur.1
  obtain ⟨r0, r1, r2⟩ := three_cell ER.out
  obtain ⟨g0, g1, g2⟩ := three_free ER.out
  clear hd HC0 HB HP HD HNE
  go_wp2_with fail
  (try simp only [Exit.inBlock, Exit.then])
  refine bodyPost_ret (v := .tuple #[.slice B m d, .agg #[.int .i64 x, .int .i64 y, .int .i64 t]]) ?_ rfl ?_
  · have hres : Try.f73.results = #[.tmp 2, .cell 3 32] := by kernel_rfl
    simp only [results, hres]
    go_simp
  · exact ⟨B, m, d, l, _, _, _, rfl, ((HSL.out.far (p := ⟨w.heap.size, 0, none⟩) HFA.out _).far (p := ⟨w.heap.size, 1, none⟩) HFA.out _).far (p := ⟨w.heap.size, 2, none⟩) HFA.out _, hm, hmd, HFB.out, ((HBW.out.setCell (by simp) _).setCell (by simp) _).setCell (by simp) _⟩
include hs hby in
set_option maxHeartbeats 2000000 in
theorem drawMoveWater_any : Calls Try.prog 48 #[.slice A n c] w (DrB2 w) := by
  have HB := Lib.hid (drawIsFlow_any A n c code (w.alloc (.cells #[.int .i64 0, .int .i64 0, .int .i64 0] 32)) (hs.bl ((Bl.refl w).alloc _)) hby)
  have ER : Hid ((w.alloc (.cells #[.int .i64 0, .int .i64 0, .int .i64 0] 32)).heap[w.heap.size]? = some (.cells #[.int .i64 0, .int .i64 0, .int .i64 0] 32 (0, 0))) := heap_alloc_new w _
  clear hs hby
  go_enter Try.func48, Try.ntmps48
  go_wp2_with fail
  refine HB.out.mono ?_
  rintro e w1 ⟨B, m, d, l, x, y, t, rfl, hsl, hm, hmd, hfr, hb⟩
  have ER := Lib.hid (hb.one ER.out)
  have HSL := Lib.hid hsl
  have HBW := Lib.hid (((Bl.refl w).alloc _).trans hb)
  obtain ⟨r0, r1, r2⟩ := three_cell ER.out
  obtain ⟨g0, g1, g2⟩ := three_free ER.out
  have HFB := Lib.hid hfr
  have HFA : Hid (∀ b o s, B = some ⟨b, o, s⟩ → b ≠ w.heap.size) := fun b o s e => by have := HFB.out b o s e; simp at this; omega
  clear HB hb hsl hfr
  go_wp2_with fail
  (try simp only [Exit.inBlock, Exit.then])
  refine bodyPost_ret (v := .tuple #[.slice B m d, .agg #[.int .i64 x, .int .i64 y, .int .i64 t]]) ?_ rfl ?_
  · have hres : Try.f48.results = #[.tmp 2, .cell 3 32] := by kernel_rfl
    simp only [results, hres]
    go_simp
  · exact ⟨B, m, d, l, _, _, _, rfl, ((HSL.out.far (p := ⟨w.heap.size, 0, none⟩) HFA.out _).far (p := ⟨w.heap.size, 1, none⟩) HFA.out _).far (p := ⟨w.heap.size, 2, none⟩) HFA.out _, hm, hmd, fun b o s e => by have := HFB.out b o s e; simp at this; omega, ((HBW.out.setCell (by simp) _).setCell (by simp) _).setCell (by simp) _⟩
include hs hby in
set_option maxHeartbeats 2000000 in
theorem drawMostLockages_any : Calls Try.prog 51 #[.slice A n c] w (DrB4 w) := by
  have HB := Lib.hid (drawIsFlow_any A n c code w hs hby)
  clear hs hby
  go_enter Try.func51, Try.ntmps51
  go_wp2_with fail
  refine HB.out.mono ?_
  rintro e w1 ⟨B, m, d, l, x, y, t, rfl, hsl, hm, hmd, hfr, hb⟩
  have HSL := Lib.hid (hsl.bl ((Bl.refl w1).alloc (.cells #[.int .i64 x, .int .i64 y, .int .i64 t] 32)))
  have HBW := Lib.hid (hb.alloc (.cells #[.int .i64 x, .int .i64 y, .int .i64 t] 32))
  have F00 : ∀ W, Bl (w1.alloc (.cells #[.int .i64 x, .int .i64 y, .int .i64 t] 32)) W → W.cell? ⟨w1.heap.size, 0, none⟩ = some (.int .i64 x) := Bl.all (by go_simp)
  have F01 : ∀ W, Bl (w1.alloc (.cells #[.int .i64 x, .int .i64 y, .int .i64 t] 32)) W → W.cell? ⟨w1.heap.size, 1, none⟩ = some (.int .i64 y) := Bl.all (by go_simp)
  have F02 : ∀ W, Bl (w1.alloc (.cells #[.int .i64 x, .int .i64 y, .int .i64 t] 32)) W → W.cell? ⟨w1.heap.size, 2, none⟩ = some (.int .i64 t) := Bl.all (by go_simp)
  clear HB hb hsl
  go_wp2_with fail
  refine region_bl (by kernel_rfl) (by kernel_rfl) (Bl.refl (w1.alloc (.cells #[.int .i64 x, .int .i64 y, .int .i64 t] 32))) ?_
  repeat' (first | go_big_quiet_skip | (go_big_quiet_want; go_simp; (try go_bits); first | (refine ⟨_, fun _ _ => rfl, ?_⟩; go_big_quiet_on) | (apply Exists.intro; refine ⟨fun W hW => ?_, ?_⟩; (· go_simp; (try go_bits); rfl); go_big_quiet_on)))
  apply wpQuiet_nil
  intro W hb
  have HSL := Lib.hid (HSL.out.bl hb)
  have HBW := Lib.hid (HBW.out.trans hb)
  clear F00 F01 F02
  go_wp2_with fail
  (try simp only [Exit.inBlock, Exit.then])
  refine bodyPost_ret (results_tmp4 rfl _ _ _) rfl ?_
  exact ⟨B, m, d, l, _, _, _, rfl, HSL.out, hm, hmd, HBW.out⟩
end
end Go.Proofs.Ytpgghmhbkgkkiaa
