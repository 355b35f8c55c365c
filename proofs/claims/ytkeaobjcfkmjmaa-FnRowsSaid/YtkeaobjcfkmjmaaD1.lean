/- The cursor that draws numbers out of bytes: its memory, and the contracts of its small methods. -/
import Derived.Test.YtkeaobjcfkmjmaaBaseX
import Derived.Test.YtkeaobjcfkmjmaaHInt
import Derived.OneCell
import Derived.Laws.Bits64b
namespace Go.Proofs.Ytkeaobjcfkmjmaa
open Go.RowKit
theorem results_tmp4 {fn : Func} {t u v x : Tmp} (h : fn.results = #[.tmp t, .tmp u, .tmp v, .tmp x]) (tmps : Array Value) (P : Program) (w : World) :
    (results fn tmps).run P w = .ok (.tuple #[tmps.getD t undef, tmps.getD u undef, tmps.getD v undef, tmps.getD x undef]) w := by
  simp [results, h]
theorem results_tmp5 {fn : Func} {t u v x y : Tmp} (h : fn.results = #[.tmp t, .tmp u, .tmp v, .tmp x, .tmp y]) (tmps : Array Value) (P : Program) (w : World) :
    (results fn tmps).run P w = .ok (.tuple #[tmps.getD t undef, tmps.getD u undef, tmps.getD v undef, tmps.getD x undef, tmps.getD y undef]) w := by
  simp [results, h]
/-- The cells of a slice of bytes; each is one. -/
def cb (x : Int) : List Value := [.int .u8 x]
theorem cb_len (x : Int) : (cb x).length = 1 := rfl
theorem Sl.byte {w : World} {A : Option Addr} {n : Nat} {l : List Int} (h : Sl cb 1 w A n l) {i : Nat} (hi : i < n) : ∃ b o x, A = some ⟨b, o, none⟩ ∧ l[i]? = some x ∧ ∀ W, Bl w W → W.cell? ⟨b, o + i, none⟩ = some (.int .u8 x) := by
  obtain ⟨b, o, x, e, hx, hc⟩ := h.at_ hi
  refine ⟨b, o, x, e, hx, Bl.all ?_⟩
  have := hc 0 _ rfl
  rwa [Nat.mul_one, Nat.add_zero] at this
def Bytes (l : List Int) : Prop := ∀ x ∈ l, 0 ≤ x ∧ x ≤ 255
/-- The block g is a cursor over the bytes at A, made behind the world z, at most k numbers on. -/
def Cur (z : World) (g : Nat) (A : Option Addr) (n c k : Nat) (w : World) : Prop :=
  Bl z w ∧ z.heap.size ≤ g ∧ ∃ (p : Nat) (sd : Int), p ≤ k ∧ w.heap[g]? = some (.cells #[.slice A n c, .int .i64 p, .int .u64 sd] 78 (0, 0))
/-- What stays when the cursor goes on. -/
def Dr (z : World) (g : Nat) (A : Option Addr) (n c k : Nat) (w w' : World) : Prop := w.grownBy w' (some g) ∧ Cur z g A n c k w'
section
variable {z w w' : World} {g : Nat} {A : Option Addr} {n c k k' : Nat}
theorem Cur.up (h : Cur z g A n c k w) (hk : k ≤ k') : Cur z g A n c k' w := by
  obtain ⟨h1, h2, p, sd, h3, h4⟩ := h
  exact ⟨h1, h2, p, sd, by omega, h4⟩
theorem Cur.bl (h : Cur z g A n c k w) (hb : Bl w w') : Cur z g A n c k w' := by
  obtain ⟨h1, h2, p, sd, h3, h4⟩ := h
  exact ⟨h1.trans hb, h2, p, sd, h3, (Below.block hb g (lt_of_block h4)).trans h4⟩
theorem Dr.cur (h : Dr z g A n c k w w') : Cur z g A n c k w' := h.2
theorem Dr.trans {w'' : World} (h : Dr z g A n c k w w') (h' : Dr z g A n c k' w' w'') : Dr z g A n c k' w w'' := ⟨grown_trans h.1 h'.1, h'.2⟩
theorem Dr.refl (h : Cur z g A n c k w) : Dr z g A n c k w w := ⟨World.grownBy.refl _ _, h⟩
theorem Dr.bl {w'' : World} (h : Dr z g A n c k w w') (hb : Bl w' w'') : Dr z g A n c k w w'' := ⟨grown_trans h.1 (hb.grownBy _), h.2.bl hb⟩
theorem Dr.up (h : Dr z g A n c k w w') (hk : k ≤ k') : Dr z g A n c k' w w' := ⟨h.1, h.2.up hk⟩
theorem Dr.own (h : Dr z g A n c k w w') {E s m : Nat} {v : Value} {xs : List Value} (ho : w.ownsRow (g + 1) E s v m xs) : w'.ownsRow (g + 1) E s v m xs :=
  ho.kept h.1 (by
    cases e : v.ownBlock with
    | none => exact .inl rfl
    | some j => exact .inr (fun e2 => by have := (World.ownsRow.lt ho j e).1; injection e2 with e2; omega))
theorem Cur.lt (h : Cur z g A n c k w) : g < w.heap.size := by
  obtain ⟨_, _, _, _, _, h4⟩ := h
  exact lt_of_block h4
theorem Dr.keep (h : Dr z g A n c k w w') {B E s m : Nat} {v : Value} {xs : List Value} (hB : g < B) (ho : w.ownsRow B E s v m xs) : w'.ownsRow B E s v m xs :=
  ho.kept h.1 (by
    cases e : v.ownBlock with
    | none => exact .inl rfl
    | some j => exact .inr (fun e2 => by have := (World.ownsRow.lt ho j e).1; injection e2 with e2; omega))
theorem Dr.sl (h : Dr z g A n c k w w') {α : Type} {f : α → List Value} {s m : Nat} {L : Option Addr} {l : List α} (hl : Sl f s w L m l) (hL : ∀ b o s, L = some ⟨b, o, s⟩ → b ≠ g) : Sl f s w' L m l :=
  hl.grown h.1 (fun b o s e e2 => hL b o s e (by injection e2))
/-- A row of the function's own has grown. -/
theorem Dr.app {w'' : World} (h : Dr z g A n c k w w') (hw : g < w.heap.size) {E s m : Nat} {v : Value} {xs : List Value} (ho : w'.ownsRow w.heap.size E s v m xs) (hg : w'.grownBy w'' v.ownBlock) : Dr z g A n c k w w'' := by
  have hne : ∀ j, j < w.heap.size → some j ≠ v.ownBlock := fun j hj e => by have := (World.ownsRow.lt ho j e.symm).1; omega
  obtain ⟨h1, h2, h3, p, sd, h4, h5⟩ := h
  have hsz := h1.size
  refine ⟨⟨hg.os.trans h1.os, hg.tape.trans h1.tape, hg.output.trans h1.output, Nat.le_trans h1.size hg.size, fun j hj hr => ?_⟩, ?_, h3, p, sd, h4, ?_⟩
  · rw [hg.block j (by omega) (hne j hj)]
    exact h1.block j hj hr
  · exact h2.grown hg (fun j hj => by have := (World.ownsRow.lt ho j hj).1; omega)
  · rw [hg.block g (by omega) (hne g hw)]
    exact h5
theorem new_ne {H g : Nat} (h : g < H) : ∀ b o s, (some ⟨H, 0, none⟩ : Option Addr) = some ⟨b, o, s⟩ → b ≠ g := fun b o s e => by
  injection e with e; injection e with e1; omega
theorem own_ne {w : World} {B E s m cp g : Nat} {L : Option Addr} {xs : List Value} (ho : w.ownsRow B E s (.slice L m cp) m xs) (hB : g < B) : ∀ b o s, L = some ⟨b, o, s⟩ → b ≠ g := fun b o s e => by
  subst e
  have := (World.ownsRow.lt ho b rfl).1
  omega
theorem Dr.le (h : Dr z g A n c k w w') : w.heap.size ≤ w'.heap.size := h.1.size
end
theorem three_cell {w : World} {b : Nat} {v0 v1 v2 : Value} {t : TypeId} (h : w.heap[b]? = some (.cells #[v0, v1, v2] t (0, 0))) : w.cell? ⟨b, 0, none⟩ = some v0 ∧ w.cell? ⟨b, 1, none⟩ = some v1 ∧ w.cell? ⟨b, 2, none⟩ = some v2 := by simp [World.cell?, h]
theorem three_free {w : World} {b : Nat} {v0 v1 v2 : Value} {t : TypeId} (h : w.heap[b]? = some (.cells #[v0, v1, v2] t (0, 0))) : w.frozen? ⟨b, 0, none⟩ = false ∧ w.frozen? ⟨b, 1, none⟩ = false ∧ w.frozen? ⟨b, 2, none⟩ = false := by simp [World.frozen?, h]
theorem three_set1 {w : World} {b : Nat} {v0 v1 v2 u : Value} {t : TypeId} (h : w.heap[b]? = some (.cells #[v0, v1, v2] t (0, 0))) : (w.setCell ⟨b, 1, none⟩ u).heap[b]? = some (.cells #[v0, u, v2] t (0, 0)) := by
  have hlt := lt_of_block h
  have h' : w.heap[b] = .cells #[v0, v1, v2] t (0, 0) := by simpa [Array.getElem?_eq_getElem hlt] using h
  show (w.heap.modify b _)[b]? = _
  rw [Array.getElem?_eq_getElem (by simpa using hlt), Array.getElem_modify_self, h']
  rfl
theorem three_set2 {w : World} {b : Nat} {v0 v1 v2 u : Value} {t : TypeId} (h : w.heap[b]? = some (.cells #[v0, v1, v2] t (0, 0))) : (w.setCell ⟨b, 2, none⟩ u).heap[b]? = some (.cells #[v0, v1, u] t (0, 0)) := by
  have hlt := lt_of_block h
  have h' : w.heap[b] = .cells #[v0, v1, v2] t (0, 0) := by simpa [Array.getElem?_eq_getElem hlt] using h
  show (w.heap.modify b _)[b]? = _
  rw [Array.getElem?_eq_getElem (by simpa using hlt), Array.getElem_modify_self, h']
  rfl
theorem u64_rng (x : Int) : Hid (0 ≤ IntKind.u64.wrap x ∧ IntKind.u64.wrap x < 18446744073709551616) := by
  show 0 ≤ IntKind.u64.wrap x ∧ IntKind.u64.wrap x < 18446744073709551616
  rw [IntKind.wrap_u64]
  omega
theorem low_rng {s : Int} (h : Hid (0 ≤ s ∧ s < 18446744073709551616)) : 0 ≤ wrap64 (bits .and .u64 (s / 1099511627776) 255) ∧ wrap64 (bits .and .u64 (s / 1099511627776) 255) ≤ 255 := by
  obtain ⟨h0, h1⟩ := h.out
  obtain ⟨t, ht⟩ := Int.eq_ofNat_of_zero_le (show 0 ≤ s / 1099511627776 by omega)
  have h2 : t < 18446744073709551616 := by omega
  have e := bits_and_u64_nat t 255 h2 (by decide)
  have h3 : t &&& 255 ≤ 255 := Nat.and_le_right
  have h4 : ((255 : Nat) : Int) = 255 := rfl
  rw [h4] at e
  rw [ht, e]
  unfold RowKit.wrap64
  omega
/-- A number in bounds, and the cursor further on. -/
def DrInt (P : Int → Prop) (z : World) (g : Nat) (A : Option Addr) (n c k : Nat) (w : World) (e : Ending) (w' : World) : Prop := ∃ x : Int, e = .returned (.int .i64 x) ∧ P x ∧ Dr z g A n c k w w'
set_option maxHeartbeats 2000000 in
theorem next_any (z : World) (g : Nat) (A : Option Addr) (n c k : Nat) (code : List Int) (hs : Sl cb 1 z A n code) (hby : Bytes code) (hk : k ≤ 1000000) (w : World) (h : Cur z g A n c k w) :
    Calls Try.prog 86 #[.pointer (some ⟨g, 0, none⟩)] w (DrInt (fun x => 0 ≤ x ∧ x ≤ 255) z g A n c (k + 1) w) := by
  obtain ⟨hbz, hzg, p, sd, hp, hblk⟩ := h
  have bn := hs.le
  have HB := Lib.hid hblk
  have HZ := Lib.hid hbz
  obtain ⟨q0, q1, q2⟩ := three_cell hblk
  have F0 := Bl.all q0
  have F1 := Bl.all q1
  have F2 := Bl.all q2
  clear hblk hbz
  by_cases hlt : p < n
  · obtain ⟨b1, o1, x, rfl, ex, c1⟩ := hs.byte hlt
    obtain ⟨x0, x1⟩ := hby x (List.mem_of_getElem? ex)
    have C1 : ∀ W, Bl w W → W.cell? ⟨b1, o1 + p, none⟩ = _ := fun W hW => c1 W (HZ.out.trans hW)
    clear c1 ex
    go_enter Try.func86, Try.ntmps86
    go_wp2_with fail
    refine region_bl (by kernel_rfl) (by kernel_rfl) (Bl.refl w) ?_
    repeat' (first | go_big_quiet_skip | (go_big_quiet_want; go_simp; (try go_bits); first | (refine ⟨_, fun _ _ => rfl, ?_⟩; go_big_quiet_on) | (apply Exists.intro; refine ⟨fun W hW => ?_, ?_⟩; (· go_simp; (try go_bits); rfl); go_big_quiet_on)))
    apply wpQuiet_nil
    intro W hb
    go_wp2_with fail
    refine region_bl (by kernel_rfl) (by kernel_rfl) hb ?_
    repeat' (first | go_big_quiet_skip | (go_big_quiet_want; go_simp; (try go_bits); first | (refine ⟨_, fun _ _ => rfl, ?_⟩; go_big_quiet_on) | (apply Exists.intro; refine ⟨fun W hW => ?_, ?_⟩; (· go_simp; (try go_bits); rfl); go_big_quiet_on)))
    apply wpQuiet_nil
    intro W hb
    have HB2 := Lib.hid (hb.one HB.out)
    obtain ⟨r0, r1, r2⟩ := three_cell HB2.out
    obtain ⟨f0, f1, f2⟩ := three_free HB2.out
    clear F0 F1 F2 C1 q0 q1 q2
    go_wp2_with fail
    generalize IntKind.u64.wrap (IntKind.u64.wrap (IntKind.u64.wrap (sd * 6364136223846793005) + x) + 924924) = sd2
    generalize hV : (W.setCell { block := g, off := 1 } (Value.int IntKind.i64 (↑p + 1))).setCell { block := g, off := 2 } (Value.int IntKind.u64 sd2) = V
    have HB3 : Hid (V.heap[g]? = some (.cells #[.slice (some ⟨b1, o1, none⟩) n c, .int .i64 ((p : Int) + 1), .int .u64 sd2] 78 (0, 0))) := by
      show _ = _
      rw [← hV]
      exact three_set2 (three_set1 HB2.out)
    have HG3 : Hid (w.grownBy V (some g)) := by
      show w.grownBy V (some g)
      rw [← hV]
      exact grown_set (grown_set (hb.grownBy _) 1 _) 2 _
    clear hV r0 r1 r2 f0 f1 f2 HB2 hb
    obtain ⟨s0, s1, s2⟩ := three_cell HB3.out
    have F0 := Bl.all s0
    have F1 := Bl.all s1
    clear s0 s1 s2
    have k1 : (p : Int) + 1 ≤ (n : Int) := by omega
    refine region_bl (by kernel_rfl) (by kernel_rfl) (Bl.refl V) ?_
    repeat' (first | go_big_quiet_skip | (go_big_quiet_want; go_simp; (try go_bits); first | (refine ⟨_, fun _ _ => rfl, ?_⟩; go_big_quiet_on) | (apply Exists.intro; refine ⟨fun W hW => ?_, ?_⟩; (· go_simp; (try go_bits); rfl); go_big_quiet_on)))
    apply wpQuiet_nil
    intro W hb
    have HBz : Hid (Bl z W) := (HZ.out.grown HG3.out (fun j hj => by injection hj with hj; omega)).trans hb
    have HB4 := Lib.hid (hb.one HB3.out)
    have HG4 := Lib.hid (grown_trans HG3.out (hb.grownBy _))
    go_wp2_with fail
    go_ret
    exact ⟨x, rfl, ⟨x0, x1⟩, HG4.out, HBz.out, hzg, p + 1, sd2, by omega, HB4.out⟩
  · have k0 : ¬ (p : Int) < (n : Int) := by omega
    have k1 : ¬ (p : Int) + 1 ≤ (n : Int) := by omega
    go_enter Try.func86, Try.ntmps86
    go_wp2_with fail
    refine region_bl (by kernel_rfl) (by kernel_rfl) (Bl.refl w) ?_
    repeat' (first | go_big_quiet_skip | (go_big_quiet_want; go_simp; (try go_bits); first | (refine ⟨_, fun _ _ => rfl, ?_⟩; go_big_quiet_on) | (apply Exists.intro; refine ⟨fun W hW => ?_, ?_⟩; (· go_simp; (try go_bits); rfl); go_big_quiet_on)))
    apply wpQuiet_nil
    intro W hb
    have HB2 := Lib.hid (hb.one HB.out)
    obtain ⟨r0, r1, r2⟩ := three_cell HB2.out
    obtain ⟨f0, f1, f2⟩ := three_free HB2.out
    clear F0 F1 F2 q0 q1 q2
    go_wp2_with fail
    have HRG := u64_rng (IntKind.u64.wrap (IntKind.u64.wrap (sd * 6364136223846793005)) + 924924)
    generalize IntKind.u64.wrap (IntKind.u64.wrap (IntKind.u64.wrap (sd * 6364136223846793005)) + 924924) = sd2 at *
    generalize hV : (W.setCell { block := g, off := 1 } (Value.int IntKind.i64 (↑p + 1))).setCell { block := g, off := 2 } (Value.int IntKind.u64 sd2) = V
    have HB3 : Hid (V.heap[g]? = some (.cells #[.slice A n c, .int .i64 ((p : Int) + 1), .int .u64 sd2] 78 (0, 0))) := by
      show _ = _
      rw [← hV]
      exact three_set2 (three_set1 HB2.out)
    have HG3 : Hid (w.grownBy V (some g)) := by
      show w.grownBy V (some g)
      rw [← hV]
      exact grown_set (grown_set (hb.grownBy _) 1 _) 2 _
    clear hV r0 r1 r2 f0 f1 f2 HB2 hb
    obtain ⟨s0, s1, s2⟩ := three_cell HB3.out
    have F0 := Bl.all s0
    have F1 := Bl.all s1
    have F2 := Bl.all s2
    clear s0 s1 s2
    refine region_bl (by kernel_rfl) (by kernel_rfl) (Bl.refl V) ?_
    repeat' (first | go_big_quiet_skip | (go_big_quiet_want; go_simp; (try go_bits); first | (refine ⟨_, fun _ _ => rfl, ?_⟩; go_big_quiet_on) | (apply Exists.intro; refine ⟨fun W hW => ?_, ?_⟩; (· go_simp; (try go_bits); rfl); go_big_quiet_on)))
    apply wpQuiet_nil
    intro W hb
    have HBz : Hid (Bl z W) := (HZ.out.grown HG3.out (fun j hj => by injection hj with hj; omega)).trans hb
    have HB4 := Lib.hid (hb.one HB3.out)
    have HG4 := Lib.hid (grown_trans HG3.out (hb.grownBy _))
    have q2 := F2 W hb
    clear F0 F1 F2
    go_wp2_with fail
    go_ret
    exact ⟨_, rfl, low_rng HRG, HG4.out, HBz.out, hzg, p + 1, sd2, by omega, HB4.out⟩
theorem next_all (z : World) (g : Nat) (A : Option Addr) (n c : Nat) (code : List Int) (hs : Sl cb 1 z A n code) (hby : Bytes code) : Hid (∀ k, k ≤ 1000000 → ∀ w, Cur z g A n c k w → Calls Try.prog 86 #[.pointer (some ⟨g, 0, none⟩)] w (DrInt (fun x => 0 ≤ x ∧ x ≤ 255) z g A n c (k + 1) w)) :=
  fun k hk w h => next_any z g A n c k code hs hby hk w h
set_option maxHeartbeats 2000000 in
theorem pick_any (z : World) (g : Nat) (A : Option Addr) (n c k : Nat) (code : List Int) (hs : Sl cb 1 z A n code) (hby : Bytes code) (hk : k ≤ 900000) (m : Int) (hm0 : -100 ≤ m) (hm : m ≤ 100000) (w : World) (h : Cur z g A n c k w) :
    Calls Try.prog 67 #[.pointer (some ⟨g, 0, none⟩), .int .i64 m] w (DrInt (fun x => 0 ≤ x ∧ x < max m 1) z g A n c (k + 2) w) := by
  have HC := Lib.hid h
  have HN := next_all z g A n c code hs hby
  clear h
  by_cases h1 : m ≤ 1
  · go_enter Try.func67, Try.ntmps67
    go_wp2_with fail
    go_ret
    exact ⟨0, rfl, ⟨by omega, by omega⟩, Dr.refl (HC.out.up (by omega))⟩
  by_cases h2 : 200 < m
  · go_enter Try.func67, Try.ntmps67
    go_wp2_with fail
    refine (HN.out k (by omega) _ HC.out).mono ?_
    rintro e w1 ⟨x, rfl, ⟨x0, x1⟩, hd⟩
    have HD := Lib.hid hd
    clear hd
    go_wp2_with fail
    refine (HN.out (k + 1) (by omega) _ HD.out.cur).mono ?_
    rintro e w2 ⟨y, rfl, ⟨y0, y1⟩, hd⟩
    have HD2 := Lib.hid (HD.out.trans hd)
    clear hd
    have hm1 : ¬ m = 0 := by omega
    have r0 : 0 ≤ (x * 256 + y) % m := Int.emod_nonneg _ hm1
    have r1 : (x * 256 + y) % m < m := Int.emod_lt_of_pos _ (by omega)
    have HR := Lib.hid r0
    have HR1 := Lib.hid r1
    clear r0 r1
    go_wp2_with fail
    go_ret
    exact ⟨(x * 256 + y) % m, rfl, ⟨HR.out, by have := HR1.out; omega⟩, HD2.out⟩
  · go_enter Try.func67, Try.ntmps67
    go_wp2_with fail
    refine (HN.out k (by omega) _ HC.out).mono ?_
    rintro e w1 ⟨x, rfl, ⟨x0, x1⟩, hd⟩
    have HD := Lib.hid (hd.up (show k + 1 ≤ k + 2 by omega))
    clear hd
    have hm1 : ¬ m = 0 := by omega
    have HR := Lib.hid (Int.emod_nonneg x hm1)
    have HR1 := Lib.hid (Int.emod_lt_of_pos x (show 0 < m by omega))
    go_wp2_with fail
    go_ret
    exact ⟨x % m, rfl, ⟨HR.out, by have := HR1.out; omega⟩, HD.out⟩
theorem pick_all (z : World) (g : Nat) (A : Option Addr) (n c : Nat) (code : List Int) (hs : Sl cb 1 z A n code) (hby : Bytes code) : Hid (∀ k, k ≤ 900000 → ∀ m, -100 ≤ m → m ≤ 100000 → ∀ w, Cur z g A n c k w → Calls Try.prog 67 #[.pointer (some ⟨g, 0, none⟩), .int .i64 m] w (DrInt (fun x => 0 ≤ x ∧ x < max m 1) z g A n c (k + 2) w)) :=
  fun k hk m h0 h1 w h => pick_any z g A n c k code hs hby hk m h0 h1 w h
def DrBool (z : World) (g : Nat) (A : Option Addr) (n c k : Nat) (w : World) (e : Ending) (w' : World) : Prop := ∃ x : Bool, e = .returned (.bool x) ∧ Dr z g A n c k w w'
set_option maxHeartbeats 2000000 in
theorem one_any (z : World) (g : Nat) (A : Option Addr) (n c k : Nat) (code : List Int) (hs : Sl cb 1 z A n code) (hby : Bytes code) (hk : k ≤ 900000) (m : Int) (hm0 : -100 ≤ m) (hm : m ≤ 100000) (w : World) (h : Cur z g A n c k w) :
    Calls Try.prog 82 #[.pointer (some ⟨g, 0, none⟩), .int .i64 m] w (DrBool z g A n c (k + 2) w) := by
  have HC := Lib.hid h
  have HN := pick_all z g A n c code hs hby
  clear h
  go_enter Try.func82, Try.ntmps82
  go_wp2_with fail
  refine (HN.out k hk m hm0 hm _ HC.out).mono ?_
  rintro e w1 ⟨x, rfl, ⟨x0, x1⟩, hd⟩
  go_wp2_with fail
  go_ret
  exact ⟨_, rfl, hd⟩
theorem one_all (z : World) (g : Nat) (A : Option Addr) (n c : Nat) (code : List Int) (hs : Sl cb 1 z A n code) (hby : Bytes code) : Hid (∀ k, k ≤ 900000 → ∀ m, -100 ≤ m → m ≤ 100000 → ∀ w, Cur z g A n c k w → Calls Try.prog 82 #[.pointer (some ⟨g, 0, none⟩), .int .i64 m] w (DrBool z g A n c (k + 2) w)) :=
  fun k hk m h0 h1 w h => one_any z g A n c k code hs hby hk m h0 h1 w h
set_option maxHeartbeats 2000000 in
theorem among_any (z : World) (g : Nat) (A : Option Addr) (n c k : Nat) (code : List Int) (hs : Sl cb 1 z A n code) (hby : Bytes code) (hk : k ≤ 900000) (B : Option Addr) (m d : Nat) (l : List Int) (h0 : 0 < m) (hm : m ≤ 1000) (w : World) (hl : Sl ci 1 w B m l) (hB : ∀ b o s, B = some ⟨b, o, s⟩ → b ≠ g) (h : Cur z g A n c k w) :
    Calls Try.prog 69 #[.pointer (some ⟨g, 0, none⟩), .slice B m d] w (DrInt (fun x => x ∈ l) z g A n c (k + 2) w) := by
  have HC := Lib.hid h
  have HN := pick_all z g A n c code hs hby
  have HS := Lib.hid hl
  have HB := Lib.hid hB
  clear h hl hB
  go_enter Try.func69, Try.ntmps69
  go_wp2_with fail
  refine (HN.out k hk m (by omega) (by omega) _ HC.out).mono ?_
  rintro e w1 ⟨x, rfl, ⟨x0, x1⟩, hd⟩
  obtain ⟨i, rfl⟩ := Int.eq_ofNat_of_zero_le x0
  have hi : i < m := by omega
  have hS1 := HS.out.grown hd.1 (fun b o s e e2 => HB.out b o s e (by injection e2))
  obtain ⟨b1, o1, y, rfl, ey, c1⟩ := hS1.int hi
  have q1 := c1 _ (Bl.refl _)
  have HD := Lib.hid hd
  have HE := Lib.hid ey
  clear c1 ey hd hS1
  go_wp2_with fail
  go_ret
  exact ⟨y, rfl, List.mem_of_getElem? HE.out, HD.out⟩
/-- A choice out of a row that has just been laid. -/
theorem among_all (z : World) (g : Nat) (A : Option Addr) (n c : Nat) (code : List Int) (hs : Sl cb 1 z A n code) (hby : Bytes code) : Hid (∀ k, k ≤ 900000 → ∀ (B : Option Addr) (m d : Nat) (l : List Int), 0 < m → m ≤ 1000 → ∀ w, Sl ci 1 w B m l → (∀ b o s, B = some ⟨b, o, s⟩ → b ≠ g) → Cur z g A n c k w → Calls Try.prog 69 #[.pointer (some ⟨g, 0, none⟩), .slice B m d] w (DrInt (fun x => x ∈ l) z g A n c (k + 2) w)) :=
  fun k hk B m d l h0 h1 w hl hB h => among_any z g A n c k code hs hby hk B m d l h0 h1 w hl hB h
end Go.Proofs.Ytkeaobjcfkmjmaa
