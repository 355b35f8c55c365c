/- The contract of what the law on bounds draws: a best order, now and then. -/
import Derived.Test.YtcmlphikdgfilaaD8c
import Derived.Test.YtcmlphikdgfilaaC8j
namespace Go.Proofs.Ytcmlphikdgfilaa
open Go.RowKit
set_option maxHeartbeats 2000000 in
theorem drawIsProven_any (A : Option Addr) (n c : Nat) (code : List Int) (w : World) (hs : Sl cb 1 w A n code) (hby : Bytes code) : Calls Try.prog 23 #[.slice A n c] w (DrA4 1048576 w) := by
  have H1 := Lib.hid (drawLockageTimes_any A n c code w hs hby)
  go_enter Try.func23, Try.ntmps23
  go_wp2_with fail
  refine H1.out.mono ?_
  rintro e w1 ⟨B, m, d, l, high, mi, C, p, f, o, rfl, hl, hm, hmd, ho, hp, hpf, hb⟩
  have HO := one_all w1 w1.heap.size A n c code (hs.bl hb) hby
  have hbx : Bl w1 (w1.alloc (.cells #[.slice A n c, .int .i64 0, .int .u64 0] 66)) := (Bl.refl w1).alloc _
  have HC1 : Hid (Cur w1 w1.heap.size A n c 0 (w1.alloc (.cells #[.slice A n c, .int .i64 0, .int .u64 0] 66))) := ⟨(Bl.refl w1).alloc _, Nat.le_refl _, 0, 0, Nat.le_refl _, heap_alloc_new w1 _⟩
  have HSL := Lib.hid hl
  have HSO := Lib.hid ho
  have HB := Lib.hid hb
  have H2 := Lib.hid (specBestLockages_any B m d l high mi _ (hl.bl hbx))
  clear hl ho hb
  generalize bestR l high mi = R at *
  obtain ⟨⟨rb, rz⟩, rok⟩ := R
  go_wp2_with fail
  refine H2.out.mono ?_
  rintro e w2 ⟨Cb, mb, cb, rfl, hob, hlb, hmb, hb2⟩
  have h8 := sl_ints hob hlb hmb
  have H8 := Lib.hid h8.1
  have h8b := h8.2
  have HNE := Lib.hid (own_ne (g := w1.heap.size) hob (by simp))
  have HD : Hid (Dr w1 w1.heap.size A n c 0 w2 w2) := Dr.refl (HC1.out.bl hb2)
  have HB2 := Lib.hid (hbx.trans hb2)
  clear hob hlb h8 hb2 hbx
  cases rok
  · go_wp2_with fail
    (try simp only [Exit.inBlock, Exit.then])
    refine bodyPost_ret (results_tmp4 rfl _ _ _) rfl ?_
    exact ⟨B, m, d, l, high, mi, C, p, f, o, rfl, HSL.out.bl HB2.out, hm, hmd, HSO.out.bl HB2.out, by omega, hpf, HB.out.trans HB2.out⟩
  · go_wp2_with fail
    refine (HO.out _ (by omega) 2 (by omega) (by omega) _ HD.out.cur).mono ?_
    rintro e w' ⟨b, rfl, hd⟩
    have HD := Lib.hid (HD.out.trans hd)
    clear hd
    cases b
    · go_wp2_with fail
      (try simp only [Exit.inBlock, Exit.then])
      refine bodyPost_ret (results_tmp4 rfl _ _ _) rfl ?_
      exact ⟨B, m, d, l, high, mi, C, p, f, o, rfl, HSL.out.bl HD.out.cur.1, hm, hmd, HSO.out.bl HD.out.cur.1, by omega, hpf, HB.out.trans HD.out.cur.1⟩
    · go_wp2_with fail
      (try simp only [Exit.inBlock, Exit.then])
      refine bodyPost_ret (results_tmp4 rfl _ _ _) rfl ?_
      exact ⟨B, m, d, l, high, mi, Cb, mb, cb, rb, rfl, HSL.out.bl HD.out.cur.1, hm, hmd, HD.out.sl H8.out HNE.out, by omega, h8b, HB.out.trans HD.out.cur.1⟩
end Go.Proofs.Ytcmlphikdgfilaa
