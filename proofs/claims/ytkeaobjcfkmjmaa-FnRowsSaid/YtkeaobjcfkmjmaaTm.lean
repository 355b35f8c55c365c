/- Tables of pairs: read, marked, checked. -/
import Derived.Test.YtkeaobjcfkmjmaaTg
import Derived.Test.YtkeaobjcfkmjmaaTb
namespace Go.Proofs.Ytkeaobjcfkmjmaa
open Go.RowKit
def hdp (g : Sv) : Rw := ⟨some ⟨g, 0, none⟩, 2, 2⟩
def lsp (p : Int × Int) : List Int := [p.1, p.2]
theorem lsp_map {S T : List (Int × Int)} (h : S.map lsp = T.map lsp) : S = T := by
  refine List.map_inj_right (f := lsp) ?_ |>.1 h
  rintro ⟨a, b⟩ ⟨c, d⟩ e
  simp [lsp] at e
  exact Prod.ext e.1 e.2
theorem sl_block {w : World} {g : Nat} {x y : Int} (h : w.heap[g]? = some (.cells #[.int .i64 x, .int .i64 y] 3 (0, 0))) : Sl ci 1 w (some ⟨g, 0, none⟩) 2 [x, y] := by
  obtain ⟨t0, t1⟩ := two_cell h
  refine ⟨rfl, by decide, fun _ => ⟨g, 0, rfl, fun i z hi j u hu => ?_⟩⟩
  match i, hi, j, hu with
  | 0, hi, 0, hu => simp at hi; subst hi; simp [ci] at hu; subst hu; exact t0
  | 1, hi, 0, hu => simp at hi; subst hi; simp [ci] at hu; subst hu; exact t1
  | _, _, j + 1, hu => simp [ci] at hu
  | i + 2, hi, _, _ => simp at hi
theorem own_block {w : World} {g b : Nat} {x y : Int} (hb : b ≤ g) (h : w.heap[g]? = some (.cells #[.int .i64 x, .int .i64 y] 3 (0, 0))) : w.ownsRow b 3 1 (.slice (some ⟨g, 0, none⟩) 2 2) 2 [.int .i64 x, .int .i64 y] :=
  ⟨rfl, .inr ⟨g, 2, _, rfl, hb, h, Nat.le_refl _, by decide, rfl, rfl⟩⟩
theorem block_own {w : World} {g b : Nat} {x y : Int} (h : w.ownsRow b 3 1 (.slice (some ⟨g, 0, none⟩) 2 2) 2 [.int .i64 x, .int .i64 y]) : w.heap[g]? = some (.cells #[.int .i64 x, .int .i64 y] 3 (0, 0)) := by
  rcases h.2 with ⟨hv, _⟩ | ⟨g', cap, cur, hv, _, hg, _, _, hs, hc⟩
  · cases hv
  · injection hv with h1 _ h3
    injection h1 with h1; injection h1 with h1
    subst h1 h3
    rw [hg]
    have : cur = #[.int .i64 x, .int .i64 y] := by
      apply Array.ext'
      rw [List.take_of_length_le (by simp [hs])] at hc
      exact hc
    rw [this]
section
variable {b n : Nat} {w w' : World} {gs : List Sv} {T : List (Int × Int)}
theorem In.tb (h : In b w gs T) {B m c : Nat} {A : Option Addr} (ho : w.ownsRow B 36 1 (.slice A m c) m (gs.flatMap cr)) (hl : gs.length = m) (hm : m ≤ 1048576) : Tb w A m (gs.map hdp) (T.map lsp) := by
  have e : (gs.map hdp).flatMap crw = gs.flatMap cr := by rw [List.flatMap_map]; rfl
  refine ⟨Sl.of_own crw_len (by rw [e]; exact ho) (by simp [hl]) (by omega), by simp [h.len], fun i r l e1 e2 => ?_⟩
  rw [List.getElem?_map, Option.map_eq_some_iff] at e1 e2
  obtain ⟨g, hg, rfl⟩ := e1
  obtain ⟨p, hp, rfl⟩ := e2
  exact ⟨sl_block (h.at_ i g p hg hp).2, Nat.le_refl _⟩
theorem In.kept (h : In b w gs T) {row : Option Nat} (hg : w.grownBy w' row) (hr : ∀ k, row = some k → k < b) : In b w' gs T :=
  ⟨h.len, fun i g p e1 e2 => ⟨(h.at_ i g p e1 e2).1, (hg.block g (lt_of_block (h.at_ i g p e1 e2).2) (fun e => by have := hr g e.symm; have := (h.at_ i g p e1 e2).1; omega)).trans (h.at_ i g p e1 e2).2⟩, h.nd⟩
theorem In.set_ (h : In b w gs T) {k g : Nat} {x : Int × Int} (hk : gs[k]? = some g) (hg : w.grownBy w' (some g)) (hx : w'.heap[g]? = some (.cells #[.int .i64 x.1, .int .i64 x.2] 3 (0, 0))) : In b w' gs (T.set k x) := by
  refine ⟨by simp [h.len], fun i g' p e1 e2 => ?_, h.nd⟩
  by_cases e : i = k
  · subst e
    rw [hk] at e1
    obtain rfl := Option.some.inj e1
    have hlt : i < T.length := by rw [← h.len]; exact (List.getElem?_eq_some_iff.1 hk).1
    rw [List.getElem?_set_self hlt] at e2
    obtain rfl := Option.some.inj e2
    obtain ⟨p, hp, _⟩ := h.ex (List.mem_of_getElem? hk)
    exact ⟨hp, hx⟩
  · rw [List.getElem?_set_ne (fun e' => e e'.symm)] at e2
    obtain ⟨h1, h2⟩ := h.at_ i g' p e1 e2
    refine ⟨h1, (hg.block g' (lt_of_block h2) (fun e' => e ?_)).trans h2⟩
    obtain rfl := Option.some.inj e'
    exact (List.getElem?_inj (List.getElem?_eq_some_iff.1 e1).1 h.nd).1 (e1.trans hk.symm)
end
def markT (q : Int) (n : Nat) : List (Int × Int) := (List.range n).map fun i => (q + (i * 2 : Nat), q + (i * 2 : Nat) + 1)
theorem markT_len (q : Int) (n : Nat) : (markT q n).length = n := by simp [markT]
theorem markT_get {q : Int} {n k : Nat} (h : k < n) : (markT q n)[k]? = some (q + (k * 2 : Nat), q + (k * 2 : Nat) + 1) := by simp [markT, h]
theorem marks_two (q : Int) : marks q (2 * 1) = [.int .i64 q, .int .i64 (q + 1)] := by simp [marks, List.range_succ]
set_option maxHeartbeats 1000000 in
theorem markIntSS_any (A : Option Addr) (n c B b : Nat) (gs : List Sv) (T : List (Int × Int)) (q : Int) (w : World) (ho : w.ownsRow B 36 1 (.slice A n c) n (gs.flatMap cr)) (hl : gs.length = n) (hi : In b w gs T) (hn : n ≤ 1048576) (h0 : 0 ≤ q) (h1 : q ≤ 1048576) :
    Calls Try.prog 45 #[.slice A n c, .int .i64 q] w fun e w' => e = .returned (.int .i64 (q + (n * 2 : Nat))) ∧ w'.ownsRow B 36 1 (.slice A n c) n (gs.flatMap cr) ∧ In b w' gs (markT q n) ∧ w.heap.size ≤ w'.heap.size ∧ ∀ a : World, Bl a w → a.heap.size ≤ b → Bl a w' := by
  have HL := Lib.hid hl
  have HO := Lib.hid ho
  have HI := Lib.hid hi
  clear ho hi
  go_enter Try.func45, Try.ntmps45
  go_wp2_with fail
  go_loopw [1, 5] (fun u i wr => ∃ (k : Nat) (T : List (Int × Int)), k ≤ n ∧ i = .int .i64 k ∧ u = .int .i64 (q + (k * 2 : Nat)) ∧ Hid (wr.ownsRow B 36 1 (.slice A n c) n (gs.flatMap cr)) ∧ Hid (In b wr gs T) ∧ Hid (T.take k = (markT q n).take k) ∧ w.heap.size ≤ wr.heap.size ∧ Hid (∀ a : World, Bl a w → a.heap.size ≤ b → Bl a wr)) (fun _ i _ => n - (intOf i).toNat)
  case atStart => exact ⟨0, T, Nat.zero_le _, rfl, by simp, HO.out, HI.out, rfl, Nat.le_refl _, fun _ h _ => h⟩
  case round =>
    clear HO HI
    obtain ⟨k, T, hk, rfl, rfl, HO, HI, HT, hz, HB⟩ := hrel
    by_cases hlt : k < n
    · have hS := Sl.of_own cr_len HO.out HL.out (by omega)
      obtain ⟨b1, o1, x, rfl, hx, hc⟩ := hS.at_ hlt
      have g1 := hc 0 _ rfl
      rw [Nat.mul_one, Nat.add_zero] at g1
      obtain ⟨g', p, e1, e2, hbg, hgp⟩ := HI.out.get (show k < gs.length by rw [HL.out]; exact hlt)
      rw [hx] at e1; obtain rfl := Option.some.inj e1
      have HX := Lib.hid hx
      have HE2 := Lib.hid e2
      have HGP := Lib.hid hgp
      have HOB := Lib.hid (own_block hbg hgp)
      clear hS hc hx e2 hgp
      go_wp2_with fail
      refine (markIntS_any (some ⟨x, 0, none⟩) 2 2 b _ (q + (k * 2 : Nat)) _ HOB.out (by omega) (by omega) (by omega)).mono ?_
      rintro e w' ⟨rfl, om, hgr⟩
      have hgr : wr.grownBy w' (some x) := hgr
      rw [marks_two] at om
      have HI2 := Lib.hid (HI.out.set_ HX.out hgr (x := (q + (k * 2 : Nat), q + (k * 2 : Nat) + 1)) (block_own om))
      have HO2 := Lib.hid (World.ownsRow.kept HO.out hgr (.inr (own_ne_ty HO.out HGP.out (by decide))))
      have HT2 : Hid ((T.set k (q + (k * 2 : Nat), q + (k * 2 : Nat) + 1)).take (k + 1) = (markT q n).take (k + 1)) := by
        show _ = _
        have hkl : k < T.length := by rw [← HI.out.len, HL.out]; exact hlt
        rw [take_one (List.getElem?_set_self hkl), take_one (markT_get hlt), List.take_set_of_le (Nat.le_refl _), HT.out]
      have HB2 : Hid (∀ a : World, Bl a w → a.heap.size ≤ b → Bl a w') := fun a ha hab => (HB.out a ha hab).grown hgr (fun j hj => by have h9 : @Eq Nat x j := Option.some.inj hj; have h8 : @LE.le Nat _ b x := hbg; omega)
      have hz2 := hgr.size
      clear om hgr HO HI HT HB HX HE2 HGP HOB
      go_wp2_with fail
      first | exact ⟨⟨k + 1, _, by omega, by go_num, by congr 1; omega, HO2.out, HI2.out, HT2.out, by omega, HB2.out⟩, by simp [intOf]; omega⟩ | (refine ⟨?_, by simp [intOf]; omega⟩; (repeat apply Exists.intro); exact ⟨⟨k + 1, _, by omega, by go_num, by congr 1; omega, HO2.out, HI2.out, HT2.out, by omega, HB2.out⟩, rfl⟩)
    · have e : k = n := by omega
      subst e
      have hTT : T = markT q k := by
        have h9 := HT.out
        rwa [List.take_of_length_le (by rw [← HI.out.len, HL.out]; exact Nat.le_refl _), List.take_of_length_le (by rw [markT_len]; exact Nat.le_refl _)] at h9
      subst hTT
      go_wp2_with fail
      go_ret
      exact ⟨rfl, HO.out, HI.out, hz, HB.out⟩
set_option maxHeartbeats 1000000 in
theorem heldIntSS_any (A : Option Addr) (n c B b : Nat) (gs : List Sv) (q : Int) (w : World) (ho : w.ownsRow B 36 1 (.slice A n c) n (gs.flatMap cr)) (hl : gs.length = n) (hi : In b w gs (markT q n)) (hn : n ≤ 1048576) (h0 : 0 ≤ q) (h1 : q ≤ 1048576) :
    Calls Try.prog 46 #[.slice A n c, .int .i64 q] w fun e w' => e = .returned (.int .i64 (q + (n * 2 : Nat))) ∧ Bl w w' := by
  have hS := Sl.of_own cr_len ho hl (by omega)
  have HL := Lib.hid hl
  have HI := Lib.hid hi
  clear hi
  go_enter Try.func46, Try.ntmps46
  go_wp2_with fail
  go_loopw [1, 5] (fun u i wr => ∃ k : Nat, k ≤ n ∧ i = .int .i64 k ∧ u = .int .i64 (q + (k * 2 : Nat)) ∧ Bl w wr) (fun _ i _ => n - (intOf i).toNat)
  case atStart => exact ⟨0, Nat.zero_le _, rfl, by simp, Bl.refl _⟩
  case round =>
    obtain ⟨k, hk, rfl, rfl, hb⟩ := hrel
    by_cases hlt : k < n
    · obtain ⟨b1, o1, x, rfl, hx, hc⟩ := hS.at_ hlt
      have g1 := hb.cell (hc 0 _ rfl)
      rw [Nat.mul_one, Nat.add_zero] at g1
      obtain ⟨g', p, e1, e2, hbg, hgp⟩ := HI.out.get (show k < gs.length by rw [HL.out]; exact hlt)
      rw [hx] at e1; obtain rfl := Option.some.inj e1
      rw [markT_get hlt] at e2
      obtain rfl := Option.some.inj e2
      have HSL := Lib.hid ((sl_block hgp).bl hb)
      have HQ : Hid (([q + (k * 2 : Nat), q + (k * 2 : Nat) + 1] : List Int).flatMap ci = marks (q + (k * 2 : Nat)) (2 * 1)) := by show _ = _; rw [marks_two]; rfl
      clear hx hgp hc
      go_wp2_with fail
      refine (heldIntS_any (some ⟨x, 0, none⟩) 2 2 _ (q + (k * 2 : Nat)) _ HSL.out (by omega) (by omega) (by omega) HQ.out).mono ?_
      rintro e w' ⟨rfl, hbn⟩
      have hb2 := hb.trans hbn
      clear hb hbn HSL HQ g1
      go_wp2_with fail
      first | exact ⟨⟨k + 1, by omega, by go_num, by congr 1; omega, hb2⟩, by simp [intOf]; omega⟩ | (refine ⟨?_, by simp [intOf]; omega⟩; (repeat apply Exists.intro); exact ⟨⟨k + 1, by omega, by go_num, by congr 1; omega, hb2⟩, rfl⟩)
    · have e : k = n := by omega
      subst e
      go_wp2_with fail
      go_ret
      exact ⟨rfl, hb⟩
end Go.Proofs.Ytkeaobjcfkmjmaa
