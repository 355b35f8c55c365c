/- FnSaving: the law returns true for all bytes. No condition. -/
import Derived.Test.YteejalanjeeecaaQ11d
import Derived.Test.YteejalanjeeecaaC11h
import Derived.Test.YteejalanjeeecaaC11f
import Derived.Test.YteejalanjeeecaaD11b
import Derived.Test.YteejalanjeeecaaR11
import Derived.Test.YteejalanjeeecaaLB
namespace Go.Proofs.Yteejalanjeeecaa
open Go.ChangeShapes Go.WideShapes Go.ChangeAt Go.RowKit Go.Deep Go.Joins
set_option maxRecDepth 100000 in
set_option maxHeartbeats 16000000 in
theorem walk_FnSaving (A : Option Addr) (n c : Nat) (code : List Int) (w : World) (s : Sl cb 1 w A n code ∧ Bytes code) :
    Calls Try.prog 14 #[.slice A n c] w fun e w' => e = .returned (.bool true) ∧ Bl w w' := by
  obtain ⟨hs, hby⟩ := s
  have HV := Lib.hid (rBig_any A n c w hs.le)
  by_cases hbig : 65536 < n
  · have e : decide (65536 < n) = true := by simpa using hbig
    rw [e] at HV
    go_enter Try.func14, Try.ntmps14
    go_wp2_with fail
    refine HV.out.mono ?_
    rintro e w' ⟨rfl, rfl⟩
    go_wp2_with fail
    go_ret
    exact ⟨rfl, Bl.refl _⟩
  have e : decide (65536 < n) = false := by simpa using hbig
  rw [e] at HV
  have HS := Lib.hid hs
  have HBY := Lib.hid hby
  clear e hs hby
  go_enter Try.func14, Try.ntmps14
  go_wp2_with fail
  refine HV.out.mono ?_
  rintro e w' ⟨rfl, rfl⟩
  go_wp2_with fail
  refine (drawDrainChamber_any A n c code _ HS.out HBY.out).mono ?_
  rintro e w1 ⟨B, m, d, l, C, p, f, o, rfl, hsl, hm, hmd, hso, hp, hpf, hb1⟩
  have HSL := Lib.hid hsl
  have HSO := Lib.hid hso
  have HBW := Lib.hid hb1
  have HLL := Lib.hid hsl.1
  have HLO := Lib.hid hso.1
  clear hsl hso hb1
  have H1 := Lib.hid (fun W hl ho => implDrainChamber_any B m d l C p f o W hl ho (by omega) (by omega) hmd hpf)
  have H2 := Lib.hid (fun W hl ho => specDrainChamber_any B m d l C p f o W hl ho (by omega) (by omega) hmd hpf)
  have H3 := Lib.hid (fun W hl ho => implFillChamber_any B m d l C p f o W hl ho (by omega) (by omega) hmd hpf)
  have H4 := Lib.hid (fun W hl ho => specFillChamber_any B m d l C p f o W hl ho (by omega) (by omega) hmd hpf)
  have H5 := Lib.hid (fun W hl => implBestDrain_any B m d l W hl hmd)
  have H6 := Lib.hid (fun W hl => specBestDrain_any B m d l W hl)
  have H7 := Lib.hid (fun C2 p2 f2 o2 W hl ho hp2 hpf2 => implDrainChamber_any B m d l C2 p2 f2 o2 W hl ho (by omega) hp2 hmd hpf2)
  have HF := Lib.hid (fun N v (h : flowAllR true l o = (N, v, true)) => saving_drain h)
  have HG := Lib.hid (fun b mo (h : bestDR l = ((b, mo), true)) => saving_best h)
  have HE : Hid (∀ v : Int, v = v → (flowAllR true l o).2.1 = (flowAllR true l o).2.1) := fun _ _ => rfl
  obtain ⟨T, hT⟩ : ∃ T, flowAllR true l o = T := ⟨_, rfl⟩
  obtain ⟨U, hU⟩ : ∃ U, flowAllR false l o = U := ⟨_, rfl⟩
  obtain ⟨G, hG⟩ : ∃ G, bestDR l = G := ⟨_, rfl⟩
  rw [hT] at H1 H2
  rw [hU] at H3 H4
  rw [hG] at H5 H6
  have HT := Lib.hid hT
  have HGG := Lib.hid hG
  clear hT hU hG HE
  obtain ⟨N, v, ok⟩ := T
  obtain ⟨N', v', ok'⟩ := U
  obtain ⟨⟨best, mo⟩, told⟩ := G
  (try simp only at H1 H2)
  (try simp only at H3 H4)
  (try simp only at H5 H6)
  go_wp2_with fail
  refine (H1.out _ HSL.out HSO.out).mono ?_
  rintro e w2 ⟨C1, m1, d1, rfl, ho1, hl1, hm1, hbn⟩
  have HS1 := Lib.hid (Sl.of_own Pool.cs_len ho1 hl1 (by omega))
  have HSL := Lib.hid (HSL.out.bl hbn)
  have HSO := Lib.hid (HSO.out.bl hbn)
  have HBW := Lib.hid (HBW.out.trans hbn)
  have HL1 := Lib.hid hl1
  clear hbn ho1 hl1
  go_wp2_with fail
  refine (H2.out _ HSL.out HSO.out).mono ?_
  rintro e w3 ⟨C2, m2, d2, rfl, ho2, hl2, hm2, hbn⟩
  have HS2 := Lib.hid (Sl.of_own Pool.cs_len ho2 hl2 (by omega))
  have HS1 := Lib.hid (HS1.out.bl hbn)
  have HSL := Lib.hid (HSL.out.bl hbn)
  have HSO := Lib.hid (HSO.out.bl hbn)
  have HBW := Lib.hid (HBW.out.trans hbn)
  clear hbn ho2 hl2
  have hb := Bl.refl w3
  go_wp2_with fail
  refine ((rPools_any C1 C2 m1 m2 d1 d2 N N _ HS1.out HS2.out)).mono ?_
  rintro e w' ⟨rfl, hbn⟩
  have hb := hb.trans hbn
  clear hbn
  simp only [eqB_self]
  have HS1 := Lib.hid (HS1.out.bl hb)
  have HSL := Lib.hid (HSL.out.bl hb)
  have HSO := Lib.hid (HSO.out.bl hb)
  have HBW := Lib.hid (HBW.out.trans hb)
  clear hb HS2 H1 H2
  go_wp2_with fail
  refine (H3.out _ HSL.out HSO.out).mono ?_
  rintro e w4 ⟨C3, m3, d3, rfl, ho3, hl3, hm3, hbn⟩
  have HS3 := Lib.hid (Sl.of_own Pool.cs_len ho3 hl3 (by omega))
  have HSL := Lib.hid (HSL.out.bl hbn)
  have HSO := Lib.hid (HSO.out.bl hbn)
  have HS1 := Lib.hid (HS1.out.bl hbn)
  have HBW := Lib.hid (HBW.out.trans hbn)
  clear hbn ho3 hl3
  go_wp2_with fail
  refine (H4.out _ HSL.out HSO.out).mono ?_
  rintro e w5 ⟨C4, m4, d4, rfl, ho4, hl4, hm4, hbn⟩
  have HS4 := Lib.hid (Sl.of_own Pool.cs_len ho4 hl4 (by omega))
  have HS3 := Lib.hid (HS3.out.bl hbn)
  have HS1 := Lib.hid (HS1.out.bl hbn)
  have HSL := Lib.hid (HSL.out.bl hbn)
  have HBW := Lib.hid (HBW.out.trans hbn)
  clear hbn ho4 hl4
  have hb := Bl.refl w5
  go_wp2_with fail
  refine ((rPools_any C3 C4 m3 m4 d3 d4 N' N' _ HS3.out HS4.out)).mono ?_
  rintro e w' ⟨rfl, hbn⟩
  have hb := hb.trans hbn
  clear hbn
  simp only [eqB_self]
  have HS1 := Lib.hid (HS1.out.bl hb)
  have HSL := Lib.hid (HSL.out.bl hb)
  have HBW := Lib.hid (HBW.out.trans hb)
  clear hb HS3 HS4 H3 H4 HSO
  cases ok
  case' true =>
    obtain ⟨su, pp, qq, ha1, ha2, ep, eq, hpq, hqw, hpw⟩ := HF.out N v HT.out
    have hl0 : 0 < m := by have := (List.getElem?_eq_some_iff.1 ep).1; rw [HLL.out] at this; exact this
    have hl1 : 0 < m1 := by have := (List.getElem?_eq_some_iff.1 eq).1; rw [HL1.out] at this; exact this
    have K1 := Lib.hid (fun W hl => implAllWater_any B m d l W hl)
    have K2 := Lib.hid (fun W hl => implAllWater_any C1 m1 d1 N W hl)
    rw [ha1] at K1
    rw [ha2] at K2
    have hb := Bl.refl w'
    go_wp2_with fail
    refine ((K1.out _ (HSL.out.bl hb))).mono ?_
    rintro e w' ⟨rfl, hbn⟩
    have hb := hb.trans hbn
    clear hbn
    go_wp2_with fail
    refine ((K2.out _ (HS1.out.bl hb))).mono ?_
    rintro e w' ⟨rfl, hbn⟩
    have hb := hb.trans hbn
    clear hbn
    have HSL := Lib.hid (HSL.out.bl hb)
    have HS1 := Lib.hid (HS1.out.bl hb)
    have HBW := Lib.hid (HBW.out.trans hb)
    obtain ⟨b1, o1, p', rfl, ep', p1, p2, p3⟩ := HSL.out.Pool hl0
    obtain ⟨b2, o2, q', rfl, eq', q1, q2, q3⟩ := HS1.out.Pool hl1
    obtain rfl : p' = pp := Option.some.inj (ep'.symm.trans ep)
    obtain rfl : q' = qq := Option.some.inj (eq'.symm.trans eq)
    obtain ⟨pa, pf, pw⟩ := p'
    obtain ⟨qa, qf, qw⟩ := q'
    simp only [Nat.zero_mul, Nat.add_zero] at p1 p2 p3 q1 q2 q3 hpq hqw hpw
    obtain ⟨hq0, hq1⟩ := hqw
    obtain ⟨hp0, hp1⟩ := hpw
    have hne : (pw - qw != v) = false := by simp [hpq]
    clear ep ep' eq eq' ha1 ha2 hb
    go_wp2_with fail
    refine region_bl (by kernel_rfl) (by kernel_rfl) (Bl.refl w') ?_
    repeat' (first | go_big_quiet_skip | (go_big_quiet_want; go_simp; (try go_bits); first | (refine ⟨_, fun _ _ => rfl, ?_⟩; go_big_quiet_on) | (apply Exists.intro; refine ⟨fun W hW => ?_, ?_⟩; (· go_simp; (try go_bits); rfl); go_big_quiet_on)))
    apply wpQuiet_nil
    intro W hb
    have HSL := Lib.hid (HSL.out.bl hb)
    have HBW := Lib.hid (HBW.out.trans hb)
    clear p1 p2 p3 q1 q2 q3 hb HS1 K1 K2 hpq
  all_goals
    go_wp2_with fail
    refine (H5.out _ HSL.out).mono ?_
    rintro e w6 ⟨C5, m5, d5, rfl, ho5, hl5, hm5, hbn⟩
    have hc5 := own_cap ho5
    have HS5 := Lib.hid (Sl.of_own ci_len ho5 hl5 (by omega))
    have HL5 := Lib.hid hl5
    have HSL := Lib.hid (HSL.out.bl hbn)
    have HBW := Lib.hid (HBW.out.trans hbn)
    clear hbn ho5 hl5
    go_wp2_with fail
    refine (H6.out _ HSL.out).mono ?_
    rintro e w7 ⟨C6, m6, d6, rfl, ho6, hl6, hm6, hbn⟩
    have HS6 := Lib.hid (Sl.of_own ci_len ho6 hl6 (by omega))
    have HS5 := Lib.hid (HS5.out.bl hbn)
    have HSL := Lib.hid (HSL.out.bl hbn)
    have HBW := Lib.hid (HBW.out.trans hbn)
    clear hbn ho6 hl6
    have hb := Bl.refl w7
    go_wp2_with fail
    refine ((rInts_any C5 C6 m5 m6 d5 d6 best best _ HS5.out HS6.out)).mono ?_
    rintro e w' ⟨rfl, hbn⟩
    have hb := hb.trans hbn
    clear hbn
    simp only [eqB_self]
    have HS5 := Lib.hid (HS5.out.bl hb)
    have HSL := Lib.hid (HSL.out.bl hb)
    have HBW := Lib.hid (HBW.out.trans hb)
    clear hb HS6 H5 H6
    cases told
    case' true =>
      obtain ⟨⟨N2, hN2⟩, hbl, hbest⟩ := HG.out best mo HGG.out
      rw [HL5.out] at hbl
      have HQ : Hid (((p : Int) == (m : Int) - 1) = false ∨ (((p : Int) == (m : Int) - 1) = true ∧ decide (mo < v) = false)) := by
        by_cases h0 : (p : Int) = (m : Int) - 1
        · refine .inr ⟨by simpa using h0, ?_⟩
          have := hbest o (by rw [HLO.out, HLL.out]; omega)
          rw [HT.out] at this
          simp only at this
          simpa using this
        · exact .inl (by simpa using h0)
      have K3 := Lib.hid (H7.out C5 m5 d5 best _ HSL.out HS5.out (by omega) hc5)
      rw [hN2] at K3
      clear hN2 hbest
      rcases HQ.out with g0 | ⟨g0, g1⟩
      all_goals
        go_wp2_with fail
        refine K3.out.mono ?_
        rintro e w8 ⟨C7, m7, d7, rfl, ho7, hl7, hm7, hbn⟩
        have HBW := Lib.hid (HBW.out.trans hbn)
        clear ho7 hl7 hbn K3 HQ
        go_wp2_with fail
    case' false =>
      go_wp2_with fail
  all_goals
    refine (drawSavedShare_any A n c code _ (HS.out.bl HBW.out) HBY.out).mono ?_
    rintro e w9 ⟨B9, m9, d9, l9, C9, p9, f9, o9, rfl, hsl9, hm9, hmd9, hso9, hp9, hpf9, hbn⟩
    have HBW := Lib.hid (HBW.out.trans hbn)
    have HSL := Lib.hid hsl9
    have HSO := Lib.hid hso9
    have HLL9 := Lib.hid hsl9.1
    clear hbn hsl9 hso9 H7 HF HG HS5
    have K1 := Lib.hid (fun W hl ho => implSavedShare_any B9 m9 d9 l9 C9 p9 f9 o9 W hl ho (by omega) (by omega) hmd9 hpf9)
    have K2 := Lib.hid (fun W hl ho => specSavedShare_any B9 m9 d9 l9 C9 p9 f9 o9 W hl ho (by omega) (by omega) hmd9 hpf9)
    have K3 := Lib.hid (fun W hl ho => implDrainChamber_any B9 m9 d9 l9 C9 p9 f9 o9 W hl ho (by omega) (by omega) hmd9 hpf9)
    have HF := Lib.hid (fun num den (h : savedR l9 o9 = ((num, den), true)) => saving_share h)
    generalize savedR l9 o9 = R at *
    obtain ⟨⟨num, den⟩, known⟩ := R
    (try simp only at K1)
    (try simp only at K2)
    have hb := Bl.refl w9
    go_wp2_with fail
    refine ((K1.out _ (HSL.out.bl hb) (HSO.out.bl hb))).mono ?_
    rintro e w' ⟨rfl, hbn⟩
    have hb := hb.trans hbn
    clear hbn
    go_wp2_with fail
    refine ((K2.out _ (HSL.out.bl hb) (HSO.out.bl hb))).mono ?_
    rintro e w' ⟨rfl, hbn⟩
    have hb := hb.trans hbn
    clear hbn
    have HSL := Lib.hid (HSL.out.bl hb)
    have HSO := Lib.hid (HSO.out.bl hb)
    have HBW := Lib.hid (HBW.out.trans hb)
    clear hb K1 K2
    cases known
    case' true =>
      obtain ⟨N9, v9, pp, hR, ep, he, hn, hpw, hv0, hv1⟩ := HF.out num den rfl
      rw [hR] at K3
      have hl0 : 0 < m9 := by have := (List.getElem?_eq_some_iff.1 ep).1; rw [HLL9.out] at this; exact this
      obtain ⟨b9, o9', p', rfl, ep', p1, p2, p3⟩ := HSL.out.Pool hl0
      obtain rfl : p' = pp := Option.some.inj (ep'.symm.trans ep)
      obtain ⟨pa, pf, pw⟩ := p'
      simp only [Nat.zero_mul, Nat.add_zero] at p1 p2 p3 he hpw
      have hm := mul_bd hn.1 hn.2 hpw.1 hpw.2
      obtain ⟨hm0, hm1⟩ := hm
      have hne : (num * pw == v9 * den) = true := by simp [he]
      clear ep ep' hR he hn hpw HF
      go_wp2_with fail
      refine (K3.out _ HSL.out HSO.out).mono ?_
      rintro e w10 ⟨C10, m10, d10, rfl, ho10, hl10, hm10, hbn⟩
      have q3 := p3 _ hbn
      have HBW := Lib.hid (HBW.out.trans hbn)
      clear ho10 hl10 hbn K3 p1 p2 p3
      go_wp2_with fail
      go_ret
      exact ⟨by first | rfl | simp, HBW.out⟩
    case' false =>
      go_wp2_with fail
      go_ret
      exact ⟨by first | rfl | simp, HBW.out⟩
namespace fnSavingDone
set_option maxRecDepth 100000 in
theorem lifted (os : Os) (started : os.Started) (H : Type) (enc : TypeId × Value → H) :
    ReturnsInHanded {} Try.checked os 14 .any (Rows.fnSavingSpec.pre6 enc Try.prog Try.f14 Rows.fnSavingRow.domain false) (Rows.fnSavingSpec.post enc Try.prog Try.f14 false true false false) := by
  refine returnsInHanded_of_change (C := Try.checked) seatOwn started (by kernel_rfl) Try.func14
    (ChangeSpec.witness6 (enc := enc) (C := Try.checked) false ⟨#[], #[.slice none 0 0], []⟩ 8 (by kernel_rfl) (by kernel_rfl) (by kernel_rfl) (by kernel_rfl)) ?_
  intro W base args ds gs before hval0 hW hcnd _
  have hval : ∀ (j : Nat) t v, Try.f14.params[j]? = some t → args[j]? = some v → Value.okWide Try.prog W .any base t v := hval0
  have hW' := hW
  obtain ⟨p, q, hA0, hV, rfl, hfz, hnd⟩ := hW
  have hA : DataW.TrodAll enc Try.prog W 0 (fun _ => true) true Try.f14.params.toList args.toList ds p := hA0
  rw [Try.params14] at hA hval
  obtain ⟨v0, vs0, d0, ds0, p0, q0, hargs, rfl, rfl, h0, r0⟩ := trodAll_cons hA
  obtain ⟨rfl, rfl, rfl⟩ := trodAll_nil r0
  obtain rfl : args = #[v0] := by cases args; simp_all
  obtain ⟨rfl, rfl⟩ := trodVars_none hV
  have k0 := h0
  have lt0 : ∀ x ∈ p0, x.block < W.heap.size := by obtain ⟨m, hm⟩ := k0; exact DataW.trod_lt m _ _ _ hm
  obtain ⟨A0, n0, c0, rfl⟩ := okWide_slice Try.underlying50 (hval 0 50 v0 rfl rfl)
  obtain ⟨l0, s0⟩ := sl_of_bytes Try.underlying50 Try.underlying5 (by kernel_rfl) h0
  clear hA0 hval0
  refine (walk_FnSaving A0 n0 c0 l0 W s0).mono fun e W' ⟨he, bel⟩ => ?_
  subst he
  exact ⟨_, rfl, _, _, _, [], _, [], hW', trodAll_mk1 (shut_bool Try.underlying4 _), (trodAll_cons_mk (Below.trod seatLaid (by kernel_rfl) (of_decide_eq_true (by kernel_rfl)) k0 bel lt0) trodAll_mk0), rfl, bel.frame _, fun h => by cases h⟩
theorem over : Rows.fnSavingRow.holds Try.pinned (OpenSpec.ofChange Rows.fnSavingSpec) :=
  OpenClaim.holds_of_wide 14 Try.f14 rfl rfl rfl rfl rfl rfl rfl ⟨rfl, rfl, rfl, rfl, rfl⟩ rfl rfl rfl rfl rfl (by kernel_rfl) Try.func14 (by kernel_rfl)
    (of_decide_eq_true (by kernel_rfl)) (by unfold Func.isWrapper; first | (rw [if_pos (by decide +kernel)]; kernel_rfl) | (rw [if_neg (by decide +kernel)]; exact ⟨rfl, rfl⟩))
    (fun os started H enc _ => lifted os started H enc)
theorem proved : Rows.FnSavingSaid := over
#print axioms proved
end fnSavingDone

end Go.Proofs.Yteejalanjeeecaa
