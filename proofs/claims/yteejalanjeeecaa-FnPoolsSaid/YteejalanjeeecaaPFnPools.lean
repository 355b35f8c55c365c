/- FnPools: the law returns true for all bytes. No condition. -/
import Derived.Test.YteejalanjeeecaaQ11c
import Derived.Test.YteejalanjeeecaaD11b
import Derived.Test.YteejalanjeeecaaR11
import Derived.Test.YteejalanjeeecaaLB
namespace Go.Proofs.Yteejalanjeeecaa
open Go.ChangeShapes Go.WideShapes Go.ChangeAt Go.RowKit Go.Deep Go.Joins
set_option maxRecDepth 100000 in
set_option maxHeartbeats 16000000 in
theorem walk_FnPools (A : Option Addr) (n c : Nat) (code : List Int) (w : World) (s : Sl cb 1 w A n code ∧ Bytes code) :
    Calls Try.prog 10 #[.slice A n c] w fun e w' => e = .returned (.bool true) ∧ Bl w w' := by
  obtain ⟨hs, hby⟩ := s
  have HV := Lib.hid (rBig_any A n c w hs.le)
  by_cases hbig : 65536 < n
  · have e : decide (65536 < n) = true := by simpa using hbig
    rw [e] at HV
    go_enter Try.func10, Try.ntmps10
    go_wp2_with fail
    refine HV.out.mono ?_
    rintro e w' ⟨rfl, rfl⟩
    go_wp2_with fail
    go_ret
    exact ⟨rfl, Bl.refl _⟩
  have e : decide (65536 < n) = false := by simpa using hbig
  rw [e] at HV
  have HS := Lib.hid hs
  have HBY := Lib.hid hby
  clear e hs hby
  go_enter Try.func10, Try.ntmps10
  go_wp2_with fail
  refine HV.out.mono ?_
  rintro e w' ⟨rfl, rfl⟩
  go_wp2_with fail
  refine (drawLetFlow_any A n c code _ HS.out HBY.out).mono ?_
  rintro e w1 ⟨B, m, d, l, x, y, rfl, hsl, hm, hmd, hb1⟩
  have HSL := Lib.hid hsl
  have HBW := Lib.hid hb1
  have HLL := Lib.hid hsl.1
  clear hsl hb1
  have H1 := Lib.hid (fun W hl => implLetFlow_any B m d l x y W hl)
  have H2 := Lib.hid (fun W hl => specLetFlow_any B m d l x y W hl)
  have H3 := Lib.hid (fun W hl => arePools_any B m d l W hl)
  have H4 := Lib.hid (fun W hl => specArePools_any B m d l W hl)
  have HF := Lib.hid (fun L v (h : letFlowR l x y = (L, v, true)) => pools_facts h)
  generalize letFlowR l x y = R at *
  generalize poolsOk l = po at H3 H4
  obtain ⟨L, v, ok⟩ := R
  (try simp only at H1)
  (try simp only at H2)
  go_wp2_with fail
  refine (H1.out _ HSL.out).mono ?_
  rintro e w2 ⟨C1, m1, d1, rfl, ho1, hl1, hm1, hbn⟩
  have HS1 := Lib.hid (Sl.of_own Pool.cs_len ho1 hl1 (by omega))
  have HSL := Lib.hid (HSL.out.bl hbn)
  have HBW := Lib.hid (HBW.out.trans hbn)
  have HL1 := Lib.hid hl1
  clear hbn ho1 hl1
  go_wp2_with fail
  refine (H2.out _ HSL.out).mono ?_
  rintro e w3 ⟨C2, m2, d2, rfl, ho2, hl2, hm2, hbn⟩
  have HS2 := Lib.hid (Sl.of_own Pool.cs_len ho2 hl2 (by omega))
  have HS1 := Lib.hid (HS1.out.bl hbn)
  have HSL := Lib.hid (HSL.out.bl hbn)
  have HBW := Lib.hid (HBW.out.trans hbn)
  clear hbn ho2 hl2
  have hb := Bl.refl w3
  go_wp2_with fail
  refine ((rPools_any C1 C2 m1 m2 d1 d2 L L _ HS1.out HS2.out)).mono ?_
  rintro e w' ⟨rfl, hbn⟩
  have hb := hb.trans hbn
  clear hbn
  simp only [eqB_self]
  go_wp2_with fail
  refine ((H3.out _ (HSL.out.bl hb))).mono ?_
  rintro e w' ⟨rfl, hbn⟩
  have hb := hb.trans hbn
  clear hbn
  go_wp2_with fail
  refine ((H4.out _ (HSL.out.bl hb))).mono ?_
  rintro e w' ⟨rfl, hbn⟩
  have hb := hb.trans hbn
  clear hbn
  have HSL := Lib.hid (HSL.out.bl hb)
  have HS1 := Lib.hid (HS1.out.bl hb)
  have HBW := Lib.hid (HBW.out.trans hb)
  clear hb HS2 H1 H2 H3 H4
  cases ok
  case' true =>
    obtain ⟨i, j, su, rfl, rfl, hi, hj, hlen, ha1, ha2, hok, hf1, hf2⟩ := HF.out L v rfl
    rw [HLL.out] at hi hj hlen
    have hi1 : i < m1 := by rw [HL1.out] at hlen; omega
    have hj1 : j < m1 := by rw [HL1.out] at hlen; omega
    have K1 := Lib.hid (fun W hl => implAllWater_any B m d l W hl)
    have K2 := Lib.hid (fun W hl => implAllWater_any C1 m1 d1 L W hl)
    have K3 := Lib.hid (fun W hl => arePools_any C1 m1 d1 L W hl)
    rw [ha1] at K1
    rw [ha2] at K2
    rw [hok] at K3
    have HF1 := Lib.hid hf1
    have HF2 := Lib.hid hf2
    clear hf1 hf2 ha1 ha2 hok HF hlen
    have hb := Bl.refl w'
    go_wp2_with fail
    refine ((K1.out _ (HSL.out.bl hb))).mono ?_
    rintro e w' ⟨rfl, hbn⟩
    have hb := hb.trans hbn
    clear hbn
    go_wp2_with fail
    refine ((K2.out _ (HS1.out.bl hb))).mono ?_
    rintro e w' ⟨rfl, hbn⟩
    have hb := hb.trans hbn
    clear hbn
    have HSL := Lib.hid (HSL.out.bl hb)
    have HS1 := Lib.hid (HS1.out.bl hb)
    have HBW := Lib.hid (HBW.out.trans hb)
    go_wp2_with fail
    obtain ⟨b1, o1, p, hB, ep, p1, p2, p3⟩ := HSL.out.Pool hi
    obtain ⟨b1', o1', q, hA, eq, q1, q2, q3⟩ := HSL.out.Pool hj
    rw [hB] at hA
    injection hA with hA; injection hA with hA hA'; subst hA hA'
    subst hB
    have M1 := Lib.hid (fun W => implFlowBetween_any p q W)
    rw [HF1.out p q ep eq] at M1
    obtain ⟨pa, pf, pw⟩ := p
    obtain ⟨qa, qf, qw⟩ := q
    simp only [Pool.val] at p1 p2 p3 q1 q2 q3 M1
    clear ep eq HF1
    refine region_bl (by kernel_rfl) (by kernel_rfl) (Bl.refl w') ?_
    repeat' (first | go_big_quiet_skip | (go_big_quiet_want; go_simp; (try go_bits); first | (refine ⟨_, fun _ _ => rfl, ?_⟩; go_big_quiet_on) | (apply Exists.intro; (with_reducible refine ⟨fun W hW => ret_bl hW (M1.out W), ?_⟩); go_big_quiet_on) | (apply Exists.intro; refine ⟨fun W hW => ?_, ?_⟩; (· go_simp; (try go_bits); rfl); go_big_quiet_on)))
    apply wpQuiet_nil
    intro W hb
    have HSL := Lib.hid (HSL.out.bl hb)
    have HS1 := Lib.hid (HS1.out.bl hb)
    have HBW := Lib.hid (HBW.out.trans hb)
    clear hb p1 p2 p3 q1 q2 q3 M1
    go_wp2_with fail
    obtain ⟨b2, o2, p, hB, ep, p1, p2, p3⟩ := HS1.out.Pool hi1
    obtain ⟨b2', o2', q, hA, eq, q1, q2, q3⟩ := HS1.out.Pool hj1
    rw [hB] at hA
    injection hA with hA; injection hA with hA hA'; subst hA hA'
    subst hB
    obtain ⟨f2, bk, f3, f4⟩ := HF2.out p q ep eq
    have HBK := Lib.hid f4
    have M2 := Lib.hid (fun W => implFlowBetween_any p q W)
    have M3 := Lib.hid (fun W => implFlowBetween_any q p W)
    rw [f2] at M2
    rw [f3] at M3
    obtain ⟨pa, pf, pw⟩ := p
    obtain ⟨qa, qf, qw⟩ := q
    simp only [Pool.val] at p1 p2 p3 q1 q2 q3 M2 M3
    clear ep eq HF2 f2 f3 f4
    refine region_bl (by kernel_rfl) (by kernel_rfl) (Bl.refl W) ?_
    repeat' (first | go_big_quiet_skip | (go_big_quiet_want; go_simp; (try go_bits); first | (refine ⟨_, fun _ _ => rfl, ?_⟩; go_big_quiet_on) | (apply Exists.intro; (with_reducible refine ⟨fun W hW => ret_bl hW (M2.out W), ?_⟩); go_big_quiet_on) | (apply Exists.intro; refine ⟨fun W hW => ?_, ?_⟩; (· go_simp; (try go_bits); rfl); go_big_quiet_on)))
    apply wpQuiet_nil
    intro W hb
    go_wp2_with fail
    refine region_bl (by kernel_rfl) (by kernel_rfl) hb ?_
    repeat' (first | go_big_quiet_skip | (go_big_quiet_want; go_simp; (try go_bits); first | (refine ⟨_, fun _ _ => rfl, ?_⟩; go_big_quiet_on) | (apply Exists.intro; (with_reducible refine ⟨fun W hW => ret_bl hW (M3.out W), ?_⟩); go_big_quiet_on) | (apply Exists.intro; refine ⟨fun W hW => ?_, ?_⟩; (· go_simp; (try go_bits); rfl); go_big_quiet_on)))
    apply wpQuiet_nil
    intro W hb
    have HBW := Lib.hid (HBW.out.trans hb)
    have HS1 := Lib.hid (HS1.out.bl hb)
    clear hb p1 p2 p3 q1 q2 q3 M2 M3
    have HG : Hid (decide (0 < v) = false ∨ (decide (0 < v) = true ∧ bk = 0)) := by
      by_cases h0 : 0 < v
      · exact .inr ⟨by simpa using h0, HBK.out h0⟩
      · exact .inl (by simpa using h0)
    clear HBK
    have hb := Bl.refl W
    rcases HG.out with g0 | ⟨g0, rfl⟩
    all_goals
      go_wp2_with fail
      refine ((K3.out _ (HS1.out.bl hb))).mono ?_
      rintro e w' ⟨rfl, hbn⟩
      have hb := hb.trans hbn
      clear hbn
      have HBW := Lib.hid (HBW.out.trans hb)
      clear hb g0 HG K1 K2 K3 HS1 HSL HL1 HLL
      go_wp2_with fail
  case' false =>
    clear HS1 HSL HF HL1 HLL
    go_wp2_with fail
  all_goals
    refine (drawFlowBetween_any A n c code _ (HS.out.bl HBW.out) HBY.out).mono ?_
    rintro e w4 ⟨pa, pf, pw, qa, qf, qw, rfl, hbn⟩
    have HBW := Lib.hid (HBW.out.trans hbn)
    clear hbn
    have K1 := Lib.hid (fun W => implFlowBetween_any ⟨pa, pf, pw⟩ ⟨qa, qf, qw⟩ W)
    have K2 := Lib.hid (fun W => specFlowBetween_any ⟨pa, pf, pw⟩ ⟨qa, qf, qw⟩ W)
    have HLE := Lib.hid (between_le (p := ⟨pa, pf, pw⟩) (q := ⟨qa, qf, qw⟩))
    generalize flowBetweenR ⟨pa, pf, pw⟩ ⟨qa, qf, qw⟩ = R at *
    obtain ⟨fz, fb⟩ := R
    (try simp only at K1)
    (try simp only at K2)
    (try simp only at HLE)
    have F00 : ∀ W, Bl ((w4.alloc (.cells #[.int .i64 pa, .int .i64 pf, .int .i64 pw] 25)).alloc (.cells #[.int .i64 qa, .int .i64 qf, .int .i64 qw] 25)) W → W.cell? ⟨w4.heap.size, 0, none⟩ = some (.int .i64 pa) := Bl.all (by go_simp)
    have F01 : ∀ W, Bl ((w4.alloc (.cells #[.int .i64 pa, .int .i64 pf, .int .i64 pw] 25)).alloc (.cells #[.int .i64 qa, .int .i64 qf, .int .i64 qw] 25)) W → W.cell? ⟨w4.heap.size, 1, none⟩ = some (.int .i64 pf) := Bl.all (by go_simp)
    have F02 : ∀ W, Bl ((w4.alloc (.cells #[.int .i64 pa, .int .i64 pf, .int .i64 pw] 25)).alloc (.cells #[.int .i64 qa, .int .i64 qf, .int .i64 qw] 25)) W → W.cell? ⟨w4.heap.size, 2, none⟩ = some (.int .i64 pw) := Bl.all (by go_simp)
    have F10 : ∀ W, Bl ((w4.alloc (.cells #[.int .i64 pa, .int .i64 pf, .int .i64 pw] 25)).alloc (.cells #[.int .i64 qa, .int .i64 qf, .int .i64 qw] 25)) W → W.cell? ⟨w4.heap.size + 1, 0, none⟩ = some (.int .i64 qa) := Bl.all (by go_simp)
    have F11 : ∀ W, Bl ((w4.alloc (.cells #[.int .i64 pa, .int .i64 pf, .int .i64 pw] 25)).alloc (.cells #[.int .i64 qa, .int .i64 qf, .int .i64 qw] 25)) W → W.cell? ⟨w4.heap.size + 1, 1, none⟩ = some (.int .i64 qf) := Bl.all (by go_simp)
    have F12 : ∀ W, Bl ((w4.alloc (.cells #[.int .i64 pa, .int .i64 pf, .int .i64 pw] 25)).alloc (.cells #[.int .i64 qa, .int .i64 qf, .int .i64 qw] 25)) W → W.cell? ⟨w4.heap.size + 1, 2, none⟩ = some (.int .i64 qw) := Bl.all (by go_simp)
    have hb := Bl.refl ((w4.alloc (.cells #[.int .i64 pa, .int .i64 pf, .int .i64 pw] 25)).alloc (.cells #[.int .i64 qa, .int .i64 qf, .int .i64 qw] 25))
    have hbq : Hid (Bl w4 ((w4.alloc (.cells #[.int .i64 pa, .int .i64 pf, .int .i64 pw] 25)).alloc (.cells #[.int .i64 qa, .int .i64 qf, .int .i64 qw] 25))) := ((Bl.refl w4).alloc _).alloc _
    go_wp2_with fail
    refine ((K1.out _)).mono ?_
    rintro e w' ⟨rfl, hbn⟩
    have hb := hb.trans hbn
    clear hbn
    go_wp2_with fail
    refine ((K2.out _)).mono ?_
    rintro e w' ⟨rfl, hbn⟩
    have hb := hb.trans hbn
    clear hbn
    have HG : Hid (decide (pw < fz) = false ∨ (decide (pw < fz) = true ∧ fb = false)) := by
      by_cases h0 : pw < fz
      · refine .inr ⟨by simpa using h0, ?_⟩
        cases fb
        · rfl
        · have := HLE.out rfl
          omega
      · exact .inl (by simpa using h0)
    have HBW := Lib.hid ((HBW.out.trans hbq.out).trans hb)
    clear HLE K1 K2
    rcases HG.out with g0 | ⟨g0, rfl⟩
  all_goals
    go_wp2_with fail
    clear F00 F01 F02 F10 F11 F12 hb hbq HG g0
    refine (drawLevelIn_any A n c code _ (HS.out.bl HBW.out) HBY.out).mono ?_
    rintro e w5 ⟨xa, xf, xw, rfl, hbn⟩
    have HBW := Lib.hid (HBW.out.trans hbn)
    clear hbn
    have K1 := Lib.hid (fun W => implLevelIn_any ⟨xa, xf, xw⟩ W)
    have K2 := Lib.hid (fun W => specLevelIn_any ⟨xa, xf, xw⟩ W)
    have K3 := Lib.hid (fun W => implIsValidPool_any ⟨xa, xf, xw⟩ W)
    obtain ⟨lf1, lf2⟩ := level_facts ⟨xa, xf, xw⟩
    rw [← lf1] at K3
    have HLF := Lib.hid lf2
    clear lf1 lf2
    generalize levelIn ⟨xa, xf, xw⟩ = R at *
    obtain ⟨⟨num, den⟩, told⟩ := R
    (try simp only at K1)
    (try simp only at K2)
    (try simp only at K3)
    (try simp only at HLF)
    have F00 : ∀ W, Bl (w5.alloc (.cells #[.int .i64 xa, .int .i64 xf, .int .i64 xw] 25)) W → W.cell? ⟨w5.heap.size, 0, none⟩ = some (.int .i64 xa) := Bl.all (by go_simp)
    have F01 : ∀ W, Bl (w5.alloc (.cells #[.int .i64 xa, .int .i64 xf, .int .i64 xw] 25)) W → W.cell? ⟨w5.heap.size, 1, none⟩ = some (.int .i64 xf) := Bl.all (by go_simp)
    have F02 : ∀ W, Bl (w5.alloc (.cells #[.int .i64 xa, .int .i64 xf, .int .i64 xw] 25)) W → W.cell? ⟨w5.heap.size, 2, none⟩ = some (.int .i64 xw) := Bl.all (by go_simp)
    have hb := Bl.refl (w5.alloc (.cells #[.int .i64 xa, .int .i64 xf, .int .i64 xw] 25))
    have hbq : Hid (Bl w5 (w5.alloc (.cells #[.int .i64 xa, .int .i64 xf, .int .i64 xw] 25))) := (Bl.refl w5).alloc _
    go_wp2_with fail
    refine ((K1.out _)).mono ?_
    rintro e w' ⟨rfl, hbn⟩
    have hb := hb.trans hbn
    clear hbn
    go_wp2_with fail
    refine ((K2.out _)).mono ?_
    rintro e w' ⟨rfl, hbn⟩
    have hb := hb.trans hbn
    clear hbn
    go_wp2_with fail
    refine ((K3.out _)).mono ?_
    rintro e w' ⟨rfl, hbn⟩
    have hb := hb.trans hbn
    clear hbn
    have HBW := Lib.hid ((HBW.out.trans hbq.out).trans hb)
    clear K1 K2 K3
    cases told
    case' true =>
      obtain ⟨ho, he, hn, hd⟩ := HLF.out rfl
      have hm1 := mul_bd ho.f0 ho.f1 (Int.le_trans (by decide) ho.a0) ho.a1
      have hm2 := mul_bd hn.1 hn.2 (Int.le_trans (by decide) ho.a0) ho.a1
      have hw0 := ho.w0
      have hw1 := ho.w1
      (try simp only at hm1 hm2 hw0 hw1 he)
      have hne : (num * xa != (xf * xa + xw) * den) = false := by simp [he]
      have hm3 : 0 ≤ (xf * xa + xw) * den ∧ (xf * xa + xw) * den ≤ 40000000 := by rw [← he]; omega
      obtain ⟨hm11, hm12⟩ := hm1
      obtain ⟨hm21, hm22⟩ := hm2
      obtain ⟨hm31, hm32⟩ := hm3
      clear he HLF ho
      go_wp2_with fail
    case' false =>
      clear HLF
      go_wp2_with fail
  all_goals
    clear F00 F01 F02 hb hbq
    refine (drawArePools_any A n c code _ (HS.out.bl HBW.out) HBY.out).mono ?_
    rintro e w6 ⟨B3, m3, d3, l3, rfl, hsl3, hm3, hmd3, hbn⟩
    have HSL := Lib.hid hsl3
    have HBW := Lib.hid (HBW.out.trans hbn)
    clear hbn hsl3
    have K1 := Lib.hid (fun W hl => implAllWater_any B3 m3 d3 l3 W hl)
    have K2 := Lib.hid (fun W hl => specAllWater_any B3 m3 d3 l3 W hl)
    generalize allWater l3 = R at *
    obtain ⟨su3, ok3⟩ := R
    (try simp only at K1)
    (try simp only at K2)
    have hb := Bl.refl w6
    go_wp2_with fail
    refine ((K1.out _ (HSL.out.bl hb))).mono ?_
    rintro e w' ⟨rfl, hbn⟩
    have hb := hb.trans hbn
    clear hbn
    go_wp2_with fail
    refine ((K2.out _ (HSL.out.bl hb))).mono ?_
    rintro e w' ⟨rfl, hbn⟩
    have hb := hb.trans hbn
    clear hbn
    go_wp2_with fail
    go_ret
    exact ⟨by first | rfl | simp, HBW.out.trans hb⟩
namespace fnPoolsDone
set_option maxRecDepth 100000 in
theorem lifted (os : Os) (started : os.Started) (H : Type) (enc : TypeId × Value → H) :
    ReturnsInHanded {} Try.checked os 10 .any (Rows.fnPoolsSpec.pre6 enc Try.prog Try.f10 Rows.fnPoolsRow.domain false) (Rows.fnPoolsSpec.post enc Try.prog Try.f10 false true false false) := by
  refine returnsInHanded_of_change (C := Try.checked) seatOwn started (by kernel_rfl) Try.func10
    (ChangeSpec.witness6 (enc := enc) (C := Try.checked) false ⟨#[], #[.slice none 0 0], []⟩ 8 (by kernel_rfl) (by kernel_rfl) (by kernel_rfl) (by kernel_rfl)) ?_
  intro W base args ds gs before hval0 hW hcnd _
  have hval : ∀ (j : Nat) t v, Try.f10.params[j]? = some t → args[j]? = some v → Value.okWide Try.prog W .any base t v := hval0
  have hW' := hW
  obtain ⟨p, q, hA0, hV, rfl, hfz, hnd⟩ := hW
  have hA : DataW.TrodAll enc Try.prog W 0 (fun _ => true) true Try.f10.params.toList args.toList ds p := hA0
  rw [Try.params10] at hA hval
  obtain ⟨v0, vs0, d0, ds0, p0, q0, hargs, rfl, rfl, h0, r0⟩ := trodAll_cons hA
  obtain ⟨rfl, rfl, rfl⟩ := trodAll_nil r0
  obtain rfl : args = #[v0] := by cases args; simp_all
  obtain ⟨rfl, rfl⟩ := trodVars_none hV
  have k0 := h0
  have lt0 : ∀ x ∈ p0, x.block < W.heap.size := by obtain ⟨m, hm⟩ := k0; exact DataW.trod_lt m _ _ _ hm
  obtain ⟨A0, n0, c0, rfl⟩ := okWide_slice Try.underlying50 (hval 0 50 v0 rfl rfl)
  obtain ⟨l0, s0⟩ := sl_of_bytes Try.underlying50 Try.underlying5 (by kernel_rfl) h0
  clear hA0 hval0
  refine (walk_FnPools A0 n0 c0 l0 W s0).mono fun e W' ⟨he, bel⟩ => ?_
  subst he
  exact ⟨_, rfl, _, _, _, [], _, [], hW', trodAll_mk1 (shut_bool Try.underlying4 _), (trodAll_cons_mk (Below.trod seatLaid (by kernel_rfl) (of_decide_eq_true (by kernel_rfl)) k0 bel lt0) trodAll_mk0), rfl, bel.frame _, fun h => by cases h⟩
theorem over : Rows.fnPoolsRow.holds Try.pinned (OpenSpec.ofChange Rows.fnPoolsSpec) :=
  OpenClaim.holds_of_wide 10 Try.f10 rfl rfl rfl rfl rfl rfl rfl ⟨rfl, rfl, rfl, rfl, rfl⟩ rfl rfl rfl rfl rfl (by kernel_rfl) Try.func10 (by kernel_rfl)
    (of_decide_eq_true (by kernel_rfl)) (by unfold Func.isWrapper; first | (rw [if_pos (by decide +kernel)]; kernel_rfl) | (rw [if_neg (by decide +kernel)]; exact ⟨rfl, rfl⟩))
    (fun os started H enc _ => lifted os started H enc)
theorem proved : Rows.FnPoolsSaid := over
#print axioms proved
end fnPoolsDone

end Go.Proofs.Yteejalanjeeecaa
