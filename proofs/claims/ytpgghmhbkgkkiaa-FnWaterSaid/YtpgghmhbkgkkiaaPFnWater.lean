/- FnWater: the law returns true for all bytes. No condition. -/
import Derived.Test.YtpgghmhbkgkkiaaQ10d
import Derived.Test.YtpgghmhbkgkkiaaD10b
import Derived.Test.YtpgghmhbkgkkiaaC10f
import Derived.Test.YtpgghmhbkgkkiaaR10
import Derived.Test.YtpgghmhbkgkkiaaLB
namespace Go.Proofs.Ytpgghmhbkgkkiaa
open Go.ChangeShapes Go.WideShapes Go.ChangeAt Go.RowKit Go.Deep Go.Joins
set_option maxRecDepth 100000 in
set_option maxHeartbeats 8000000 in
theorem walk_FnWater (A : Option Addr) (n c : Nat) (code : List Int) (w : World) (s : Sl cb 1 w A n code ∧ Bytes code) :
    Calls Try.prog 12 #[.slice A n c] w fun e w' => e = .returned (.bool true) ∧ Bl w w' := by
  obtain ⟨hs, hby⟩ := s
  have HV := Lib.hid (vBig_any A n c w hs.le)
  by_cases hbig : 65536 < n
  · have e : decide (65536 < n) = true := by simpa using hbig
    rw [e] at HV
    go_enter Try.func12, Try.ntmps12
    go_wp2_with fail
    refine HV.out.mono ?_
    rintro e w' ⟨rfl, rfl⟩
    go_wp2_with fail
    go_ret
    exact ⟨rfl, Bl.refl _⟩
  have e : decide (65536 < n) = false := by simpa using hbig
  rw [e] at HV
  have HS := Lib.hid hs
  have HBY := Lib.hid hby
  clear e hs hby
  go_enter Try.func12, Try.ntmps12
  go_wp2_with fail
  refine HV.out.mono ?_
  rintro e w' ⟨rfl, rfl⟩
  go_wp2_with fail
  refine (drawRunFlows_any A n c code _ HS.out HBY.out).mono ?_
  rintro e w1 ⟨B, m, d, l, C, p, f, fs, rfl, hsl, hm, hmd, hso, hp, hpf, hb1⟩
  have HSL := Lib.hid hsl
  have HSF := Lib.hid hso
  have HBW := Lib.hid hb1
  have HLF := Lib.hid hso.1
  clear hsl hb1 hso
  have H1 := Lib.hid (fun W hl hf => implRunFlows_any B m d l C p f fs W hl hf (by omega) (by omega))
  have H2 := Lib.hid (fun W hl hf => specRunFlows_any B m d l C p f fs W hl hf (by omega) (by omega))
  have HF := Lib.hid (fun r v (h : runFlowsR l fs = (r, v, true)) => water_run h)
  generalize runFlowsR l fs = R at *
  obtain ⟨r, v, ok⟩ := R
  (try simp only at H1)
  (try simp only at H2)
  go_wp2_with fail
  refine (H1.out _ HSL.out HSF.out).mono ?_
  rintro e w2 ⟨C1, m1, d1, rfl, ho1, hl1, hm1, hbn⟩
  have HS1 := Lib.hid (Sl.of_own Basin.cs_len ho1 hl1 (by omega))
  have HSL := Lib.hid (HSL.out.bl hbn)
  have HSF := Lib.hid (HSF.out.bl hbn)
  have HBW := Lib.hid (HBW.out.trans hbn)
  clear hbn ho1 hl1
  go_wp2_with fail
  refine (H2.out _ HSL.out HSF.out).mono ?_
  rintro e w3 ⟨C2, m2, d2, rfl, ho2, hl2, hm2, hbn⟩
  have HS2 := Lib.hid (Sl.of_own Basin.cs_len ho2 hl2 (by omega))
  have HS1 := Lib.hid (HS1.out.bl hbn)
  have HSL := Lib.hid (HSL.out.bl hbn)
  have HSF := Lib.hid (HSF.out.bl hbn)
  have HBW := Lib.hid (HBW.out.trans hbn)
  clear hbn ho2 hl2
  have hb := Bl.refl w3
  go_wp2_with fail
  refine ((vBasins_any C1 C2 m1 m2 d1 d2 r r _ HS1.out HS2.out)).mono ?_
  rintro e w' ⟨rfl, hbn⟩
  have hb := hb.trans hbn
  clear hbn
  simp only [eqB_self]
  have HSL := Lib.hid (HSL.out.bl hb)
  have HSF := Lib.hid (HSF.out.bl hb)
  have HS1 := Lib.hid (HS1.out.bl hb)
  have HBW := Lib.hid (HBW.out.trans hb)
  clear hb HS2 H1 H2
  cases ok
  case' true =>
    obtain ⟨k, rfl, hkf, hlr, ht1, ht2, hnet, hdiff, hrok, ⟨b10, b11⟩, ⟨b20, b21⟩, hmv⟩ := HF.out r v rfl
    have hkp : k ≤ p := by rw [HLF.out] at hkf; exact hkf
    have K1 := Lib.hid (fun W hl => implTotalWater_any B m d l W hl)
    have K2 := Lib.hid (fun W hl => implTotalWater_any C1 m1 d1 r W hl)
    have K3 := Lib.hid (fun W hl hf => implNetInflow_any B C m k d f l (fs.take k) W hl hf)
    have K4 := Lib.hid (fun W hl => areBasins_any C1 m1 d1 r W hl)
    have K5 := Lib.hid (fun q W hl => implMoveWater_any C1 m1 d1 r q W hl (by omega))
    rw [ht1] at K1
    rw [ht2] at K2
    rw [hnet] at K3
    rw [hrok] at K4
    have HMV := Lib.hid hmv
    have hne : (totalOf r - totalOf l != netOf (fs.take k)) = false := by rw [hdiff]; simp
    clear hmv ht1 ht2 hnet hrok HF hkf hdiff
    generalize totalOf l = T1 at *
    generalize totalOf r = T2 at *
    generalize netOf (fs.take k) = T3 at *
    have hb := Bl.refl w'
    go_wp2_with fail
    refine ((K1.out _ (HSL.out.bl hb))).mono ?_
    rintro e w' ⟨rfl, hbn⟩
    have hb := hb.trans hbn
    clear hbn
    go_wp2_with fail
    refine ((K2.out _ (HS1.out.bl hb))).mono ?_
    rintro e w' ⟨rfl, hbn⟩
    have hb := hb.trans hbn
    clear hbn
    have p1 : (0 : Int) ≤ k := by omega
    have p2 : (k : Int) ≤ p := by omega
    have p3 : (k : Int) ≤ f := by omega
    go_wp2_with fail
    refine ((K3.out _ (HSL.out.bl hb) ((HSF.out.bl hb).take_ hkp))).mono ?_
    rintro e w' ⟨rfl, hbn⟩
    have hb := hb.trans hbn
    clear hbn
    go_wp2_with fail
    refine ((K4.out _ (HS1.out.bl hb))).mono ?_
    rintro e w' ⟨rfl, hbn⟩
    have hb := hb.trans hbn
    clear hbn
    have HSL := Lib.hid (HSL.out.bl hb)
    have HSF := Lib.hid (HSF.out.bl hb)
    have HS1 := Lib.hid (HS1.out.bl hb)
    have HBW := Lib.hid (HBW.out.trans hb)
    clear hb K1 K2 K3 K4
    by_cases hlt : k < p
    case' pos =>
      have p4 : (k : Int) < p := by omega
      obtain ⟨b1, o1, q, rfl, eq, q1, q2, q3⟩ := HSF.out.Flow hlt
      have f1 := q1 _ (Bl.refl _)
      have f2 := q2 _ (Bl.refl _)
      have f3 := q3 _ (Bl.refl _)
      have K6 := Lib.hid (K5.out q)
      rw [HMV.out q eq] at K6
      obtain ⟨qa, qb, qc⟩ := q
      simp only at f1 f2 f3 K6
      clear eq q1 q2 q3
      go_wp2_with fail
      refine (K6.out _ HS1.out).mono ?_
      rintro e w4 ⟨C4, m4, d4, rfl, ho4, hl4, hm4, hbn⟩
      have HBW := Lib.hid (HBW.out.trans hbn)
      clear ho4 hl4 hbn K6 K5 f1 f2 f3 HMV p1 p2 p3 p4 hne
      go_wp2_with fail
    case' neg =>
      have p4 : ¬ (k : Int) < p := by omega
      clear K5 HMV
      go_wp2_with fail
      clear p1 p2 p3 p4 hne
  case' false =>
    clear HF HS1
    go_wp2_with fail
  all_goals
    refine (drawMoveWater_any A n c code _ (HS.out.bl HBW.out) HBY.out).mono ?_
    rintro e w5 ⟨B5, m5, d5, l5, x, y, t, rfl, hsl5, hm5, hmd5, _, hbn⟩
    have HBW := Lib.hid (HBW.out.trans hbn)
    have HSL := Lib.hid (hsl5.bl ((Bl.refl w5).alloc (.cells #[.int .i64 x, .int .i64 y, .int .i64 t] 32)))
    have F00 : ∀ W, Bl (w5.alloc (.cells #[.int .i64 x, .int .i64 y, .int .i64 t] 32)) W → W.cell? ⟨w5.heap.size, 0, none⟩ = some (.int .i64 x) := Bl.all (by go_simp)
    have F01 : ∀ W, Bl (w5.alloc (.cells #[.int .i64 x, .int .i64 y, .int .i64 t] 32)) W → W.cell? ⟨w5.heap.size, 1, none⟩ = some (.int .i64 y) := Bl.all (by go_simp)
    have F02 : ∀ W, Bl (w5.alloc (.cells #[.int .i64 x, .int .i64 y, .int .i64 t] 32)) W → W.cell? ⟨w5.heap.size, 2, none⟩ = some (.int .i64 t) := Bl.all (by go_simp)
    have HBX : Hid (Bl w5 (w5.alloc (.cells #[.int .i64 x, .int .i64 y, .int .i64 t] 32))) := (Bl.refl w5).alloc _
    clear hbn hsl5
    have K1 := Lib.hid (fun W hl => implMoveWater_any B5 m5 d5 l5 ⟨x, y, t⟩ W hl (by omega))
    have K2 := Lib.hid (fun W hl => specMoveWater_any B5 m5 d5 l5 ⟨x, y, t⟩ W hl (by omega))
    have K3 := Lib.hid (fun W hl => implIsFlow_any B5 m5 d5 l5 ⟨x, y, t⟩ W hl)
    have K4 := Lib.hid (fun W hl => specIsFlow_any B5 m5 d5 l5 ⟨x, y, t⟩ W hl)
    have HF := Lib.hid (fun Y (h : moveWaterR l5 ⟨x, y, t⟩ = (Y, true)) => water_move h)
    generalize flowOk l5 ⟨x, y, t⟩ = fo at K3 K4
    generalize moveWaterR l5 ⟨x, y, t⟩ = R at *
    obtain ⟨Y, told⟩ := R
    (try simp only at K1)
    (try simp only at K2)
    go_wp2_with fail
    refine (K1.out _ HSL.out).mono ?_
    rintro e w6 ⟨C6, m6, d6, rfl, ho6, hl6, hm6, hbn⟩
    have HS6 := Lib.hid (Sl.of_own Basin.cs_len ho6 hl6 (by omega))
    have HL6 := Lib.hid hl6
    have hb := hbn
    have k1 := F00 _ hb
    have k2 := F01 _ hb
    have k3 := F02 _ hb
    clear ho6 hl6 hbn
    go_wp2_with fail
    refine (K2.out _ (HSL.out.bl hb)).mono ?_
    rintro e w7 ⟨C7, m7, d7, rfl, ho7, hl7, hm7, hbn⟩
    have HS7 := Lib.hid (Sl.of_own Basin.cs_len ho7 hl7 (by omega))
    have HS6 := Lib.hid (HS6.out.bl hbn)
    have hb7 := hb.trans hbn
    have HSL := Lib.hid (HSL.out.bl hb7)
    have HBW := Lib.hid ((HBW.out.trans HBX.out).trans hb7)
    have G0 : ∀ W, Bl w7 W → W.cell? ⟨w5.heap.size, 0, none⟩ = some (.int .i64 x) := fun W hW => F00 W (hb7.trans hW)
    have G1 : ∀ W, Bl w7 W → W.cell? ⟨w5.heap.size, 1, none⟩ = some (.int .i64 y) := fun W hW => F01 W (hb7.trans hW)
    have G2 : ∀ W, Bl w7 W → W.cell? ⟨w5.heap.size, 2, none⟩ = some (.int .i64 t) := fun W hW => F02 W (hb7.trans hW)
    have K5 : Hid (∀ W, Bl w7 W → Calls Try.prog 47 #[.slice C6 m6 d6, .slice C7 m7 d7] W fun e w' => e = .returned (.bool true) ∧ Bl W w') := by
      intro W hW
      have := vBasins_any C6 C7 m6 m7 d6 d7 Y Y W (HS6.out.bl hW) (HS7.out.bl hW)
      rw [eqB_self] at this
      exact this
    have K6 := Lib.hid (fun W hl => implMoveWater_any C6 m6 d6 Y ⟨y, x, t⟩ W hl (by omega))
    clear F00 F01 F02 HBX hbn ho7 hl7 hb hb7 K1 K2 k1 k2 k3
    go_wp2_with fail
    refine region_bl (by kernel_rfl) (by kernel_rfl) (Bl.refl w7) ?_
    repeat' (first | go_big_quiet_skip | (go_big_quiet_want; go_simp; (try go_bits); first | (refine ⟨_, fun _ _ => rfl, ?_⟩; go_big_quiet_on) | (apply Exists.intro; (with_reducible refine ⟨fun W hW => ret_bl hW (K5.out W hW), ?_⟩); go_big_quiet_on) | (apply Exists.intro; (with_reducible refine ⟨fun W hW => ret_bl hW (K3.out W (HSL.out.bl hW)), ?_⟩); go_big_quiet_on) | (apply Exists.intro; (with_reducible refine ⟨fun W hW => ret_bl hW (K4.out W (HSL.out.bl hW)), ?_⟩); go_big_quiet_on) | (apply Exists.intro; refine ⟨fun W hW => ?_, ?_⟩; (· go_simp; (try go_bits); rfl); go_big_quiet_on)))
    apply wpQuiet_nil
    intro W hb
    have HS6 := Lib.hid (HS6.out.bl hb)
    have HSL := Lib.hid (HSL.out.bl hb)
    have HBW := Lib.hid (HBW.out.trans hb)
    have f0 := G0 _ hb
    have f1 := G1 _ hb
    have f2 := G2 _ hb
    clear G0 G1 G2 K3 K4 K5 HS7 hb
    (try simp only [bne_self_eq_false])
    cases told
    case' true =>
      obtain ⟨hbk, _⟩ := HF.out Y rfl
      rw [hbk] at K6
      go_wp2_with fail
      refine (K6.out _ HS6.out).mono ?_
      rintro e w8 ⟨C8, m8, d8, rfl, ho8, hl8, hm8, hbn⟩
      have HS8 := Lib.hid (Sl.of_own Basin.cs_len ho8 hl8 (by omega))
      have HSL := Lib.hid (HSL.out.bl hbn)
      have HBW := Lib.hid (HBW.out.trans hbn)
      have hb := Bl.refl w8
      clear ho8 hl8 hbn
      go_wp2_with fail
      refine ((vBasins_any C8 B5 m8 m5 d8 d5 l5 l5 _ HS8.out HSL.out)).mono ?_
      rintro e w' ⟨rfl, hbn⟩
      have hb := hb.trans hbn
      clear hbn
      simp only [eqB_self]
      have HBW := Lib.hid (HBW.out.trans hb)
      clear hb f0 f1 f2 K6 HF hbk
      go_wp2_with fail
    case' false =>
      clear f0 f1 f2 K6 HF
      go_wp2_with fail
  all_goals
    refine (drawNetInflow_any A n c code _ (HS.out.bl HBW.out) HBY.out).mono ?_
    rintro e w9 ⟨B9, m9, d9, l9, C9, p9, f9, fs9, rfl, hsl9, hm9, hmd9, hso9, hp9, hpf9, hbn⟩
    have HBW := Lib.hid (HBW.out.trans hbn)
    have HSL := Lib.hid hsl9
    have HSF := Lib.hid hso9
    clear hbn hsl9 hso9
    have K1 := Lib.hid (fun W hl hf => implNetInflow_any B9 C9 m9 p9 d9 f9 l9 fs9 W hl hf)
    have K2 := Lib.hid (fun W hl hf => specNetInflow_any B9 C9 m9 p9 d9 f9 l9 fs9 W hl hf)
    generalize netInflow l9 fs9 = R at *
    obtain ⟨nv, nb⟩ := R
    (try simp only at K1)
    (try simp only at K2)
    have hb := Bl.refl w9
    go_wp2_with fail
    refine ((K1.out _ (HSL.out.bl hb) (HSF.out.bl hb))).mono ?_
    rintro e w' ⟨rfl, hbn⟩
    have hb := hb.trans hbn
    clear hbn
    go_wp2_with fail
    refine ((K2.out _ (HSL.out.bl hb) (HSF.out.bl hb))).mono ?_
    rintro e w' ⟨rfl, hbn⟩
    have hb := hb.trans hbn
    clear hbn
    have HBW := Lib.hid (HBW.out.trans hb)
    clear hb K1 K2
    go_wp2_with fail
    refine (drawTotalWater_any A n c code _ (HS.out.bl HBW.out) HBY.out).mono ?_
    rintro e w10 ⟨B10, m10, d10, l10, rfl, hsl10, hm10, hmd10, hbn⟩
    have HBW := Lib.hid (HBW.out.trans hbn)
    have HSL := Lib.hid hsl10
    clear hbn hsl10
    have K1 := Lib.hid (fun W hl => implTotalWater_any B10 m10 d10 l10 W hl)
    have K2 := Lib.hid (fun W hl => specTotalWater_any B10 m10 d10 l10 W hl)
    have K3 := Lib.hid (fun W hl => areBasins_any B10 m10 d10 l10 W hl)
    rw [← total_snd] at K3
    generalize totalWater l10 = R at *
    obtain ⟨tv, tb⟩ := R
    (try simp only at K1)
    (try simp only at K2)
    (try simp only at K3)
    have hb := Bl.refl w10
    go_wp2_with fail
    refine ((K1.out _ (HSL.out.bl hb))).mono ?_
    rintro e w' ⟨rfl, hbn⟩
    have hb := hb.trans hbn
    clear hbn
    go_wp2_with fail
    refine ((K2.out _ (HSL.out.bl hb))).mono ?_
    rintro e w' ⟨rfl, hbn⟩
    have hb := hb.trans hbn
    clear hbn
    go_wp2_with fail
    refine ((K3.out _ (HSL.out.bl hb))).mono ?_
    rintro e w' ⟨rfl, hbn⟩
    have hb := hb.trans hbn
    clear hbn
    have HBW := Lib.hid (HBW.out.trans hb)
    go_wp2_with fail
    go_ret
    exact ⟨by first | rfl | simp, HBW.out⟩
namespace fnWaterDone
set_option maxRecDepth 100000 in
theorem lifted (os : Os) (started : os.Started) (H : Type) (enc : TypeId × Value → H) :
    ReturnsInHanded {} Try.checked os 12 .any (Rows.fnWaterSpec.pre6 enc Try.prog Try.f12 Rows.fnWaterRow.domain false) (Rows.fnWaterSpec.post enc Try.prog Try.f12 false true false false) := by
  refine returnsInHanded_of_change (C := Try.checked) seatOwn started (by kernel_rfl) Try.func12
    (ChangeSpec.witness6 (enc := enc) (C := Try.checked) false ⟨#[], #[.slice none 0 0], []⟩ 8 (by kernel_rfl) (by kernel_rfl) (by kernel_rfl) (by kernel_rfl)) ?_
  intro W base args ds gs before hval0 hW hcnd _
  have hval : ∀ (j : Nat) t v, Try.f12.params[j]? = some t → args[j]? = some v → Value.okWide Try.prog W .any base t v := hval0
  have hW' := hW
  obtain ⟨p, q, hA0, hV, rfl, hfz, hnd⟩ := hW
  have hA : DataW.TrodAll enc Try.prog W 0 (fun _ => true) true Try.f12.params.toList args.toList ds p := hA0
  rw [Try.params12] at hA hval
  obtain ⟨v0, vs0, d0, ds0, p0, q0, hargs, rfl, rfl, h0, r0⟩ := trodAll_cons hA
  obtain ⟨rfl, rfl, rfl⟩ := trodAll_nil r0
  obtain rfl : args = #[v0] := by cases args; simp_all
  obtain ⟨rfl, rfl⟩ := trodVars_none hV
  have k0 := h0
  have lt0 : ∀ x ∈ p0, x.block < W.heap.size := by obtain ⟨m, hm⟩ := k0; exact DataW.trod_lt m _ _ _ hm
  obtain ⟨A0, n0, c0, rfl⟩ := okWide_slice Try.underlying58 (hval 0 58 v0 rfl rfl)
  obtain ⟨l0, s0⟩ := sl_of_bytes Try.underlying58 Try.underlying5 (by kernel_rfl) h0
  clear hA0 hval0
  refine (walk_FnWater A0 n0 c0 l0 W s0).mono fun e W' ⟨he, bel⟩ => ?_
  subst he
  exact ⟨_, rfl, _, _, _, [], _, [], hW', trodAll_mk1 (shut_bool Try.underlying4 _), (trodAll_cons_mk (Below.trod seatLaid (by kernel_rfl) (of_decide_eq_true (by kernel_rfl)) k0 bel lt0) trodAll_mk0), rfl, bel.frame _, fun h => by cases h⟩
theorem over : Rows.fnWaterRow.holds Try.pinned (OpenSpec.ofChange Rows.fnWaterSpec) :=
  OpenClaim.holds_of_wide 12 Try.f12 rfl rfl rfl rfl rfl rfl rfl ⟨rfl, rfl, rfl, rfl, rfl⟩ rfl rfl rfl rfl rfl (by kernel_rfl) Try.func12 (by kernel_rfl)
    (of_decide_eq_true (by kernel_rfl)) (by unfold Func.isWrapper; first | (rw [if_pos (by decide +kernel)]; kernel_rfl) | (rw [if_neg (by decide +kernel)]; exact ⟨rfl, rfl⟩))
    (fun os started H enc _ => lifted os started H enc)
theorem proved : Rows.FnWaterSaid := over
#print axioms proved
end fnWaterDone

end Go.Proofs.Ytpgghmhbkgkkiaa
