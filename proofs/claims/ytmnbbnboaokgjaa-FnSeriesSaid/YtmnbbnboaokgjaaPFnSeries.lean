/- FnSeries: the law returns true for all bytes. No condition. -/
import Derived.Test.YtmnbbnboaokgjaaC6l
import Derived.Test.YtmnbbnboaokgjaaD6s
import Derived.Test.YtmnbbnboaokgjaaLB
namespace Go.Proofs.Ytmnbbnboaokgjaa
open Go.ChangeShapes Go.WideShapes Go.ChangeAt Go.RowKit Go.Deep Go.Joins
set_option maxRecDepth 100000 in
set_option maxHeartbeats 8000000 in
theorem walk_FnSeries (A : Option Addr) (n c : Nat) (code : List Int) (w : World) (s : Sl cb 1 w A n code ∧ Bytes code) :
    Calls Try.prog 6 #[.slice A n c] w fun e w' => e = .returned (.bool true) ∧ Bl w w' := by
  obtain ⟨hs, hby⟩ := s
  have HV := Lib.hid (rBig_any A n c w hs.le)
  by_cases hbig : 65536 < n
  · have e : decide (65536 < n) = true := by simpa using hbig
    rw [e] at HV
    go_enter Try.func6, Try.ntmps6
    go_wp2_with fail
    refine HV.out.mono ?_
    rintro e w' ⟨rfl, rfl⟩
    go_wp2_with fail
    go_ret
    exact ⟨rfl, Bl.refl _⟩
  have e : decide (65536 < n) = false := by simpa using hbig
  rw [e] at HV
  have HS := Lib.hid hs
  have HBY := Lib.hid hby
  clear e hs hby
  go_enter Try.func6, Try.ntmps6
  go_wp2_with fail
  refine HV.out.mono ?_
  rintro e w' ⟨rfl, rfl⟩
  go_wp2_with fail
  refine (drawLongestCalm_any A n c code _ HS.out HBY.out).mono ?_
  rintro e w1 ⟨B, m, d, l, f, rfl, hsl, hm, hmd, hb1⟩
  have HSL := Lib.hid hsl
  have HB1 := Lib.hid hb1
  have HL := Lib.hid hsl.1
  have hb := Bl.refl w1
  clear hsl hb1
  have K1 := Lib.hid (fun W hl => implLongest_any B m d l f W hl hmd)
  have K2 := Lib.hid (fun W hl => specLongest_any B m d l f W hl)
  have HP := Lib.hid (long_pos (l := l) (m := f))
  cases hok : (longR l f).2
  case' false =>
    clear HP
    generalize longR l f = R at *
    obtain ⟨⟨ra, rb⟩, ro⟩ := R
    (try simp only at hok)
    subst hok
    go_wp2_with fail
    refine ((K1.out _ (HSL.out.bl hb))).mono ?_
    rintro e w' ⟨rfl, hbn⟩
    have hb := hb.trans hbn
    clear hbn
    go_wp2_with fail
    refine ((K2.out _ (HSL.out.bl hb))).mono ?_
    rintro e w' ⟨rfl, hbn⟩
    have hb := hb.trans hbn
    clear hbn
    have HBW := Lib.hid (HB1.out.trans hb)
    clear hb
  case' true =>
    obtain ⟨p1, p2, p3, p4⟩ := HP.out hok
    rw [p4] at K1 K2
    rw [HL.out] at K1 K2 p1 p2 p3
    have HCS := Lib.hid (calm_still p3)
    clear p3 p4 hok HP
    generalize (bstK l f m).1 = a at *
    generalize (bstK l f m).2 = b at *
    obtain ⟨b0, o0, x0, rfl, ex0, c0⟩ := HSL.out.int (i := 0) (by omega)
    clear ex0 c0
    have K3 := Lib.hid (fun c' W hl => implJumpIn_any (some ⟨b0, o0 + a, none⟩) b c' ((l.drop a).take b) f W hl)
    rw [HCS.out] at K3
    go_wp2_with fail
    refine ((K1.out _ (HSL.out.bl hb))).mono ?_
    rintro e w' ⟨rfl, hbn⟩
    have hb := hb.trans hbn
    clear hbn
    go_wp2_with fail
    refine ((K2.out _ (HSL.out.bl hb))).mono ?_
    rintro e w' ⟨rfl, hbn⟩
    have hb := hb.trans hbn
    clear hbn
    have k1 : (a : Int) + (b : Int) ≤ (m : Int) := by omega
    have k2 : a + b - a = b := by omega
    have k3 : (1 : Int) ≤ (b : Int) := by omega
    go_wp2_with fail
    refine ((K3.out _ _ (Sl.sub (HSL.out.bl hb) p2))).mono ?_
    rintro e w' ⟨rfl, hbn⟩
    have hb := hb.trans hbn
    clear hbn
    have HBW := Lib.hid (HB1.out.trans hb)
    clear hb k1 k2 k3
  all_goals
    go_wp2_with fail
    refine (drawJumpIn_any A n c code _ (HS.out.bl HBW.out) HBY.out).mono ?_
    rintro e w2 ⟨B2, m2, d2, l2, f2, rfl, hsl, hm2, hmd2, hbn⟩
    have HSL2 := Lib.hid hsl
    have HL2 := Lib.hid hsl.1
    have HBW := Lib.hid (HBW.out.trans hbn)
    have hb := Bl.refl w2
    clear hsl hbn
    have J1 := Lib.hid (fun W hl => implJumpIn_any B2 m2 d2 l2 f2 W hl)
    have J2 := Lib.hid (fun W hl => specJumpIn_any B2 m2 d2 l2 f2 W hl)
    have HJ := Lib.hid (jump_still (l := l2) (m := f2))
    generalize jumpR l2 f2 = R2 at *
    obtain ⟨ja, jo⟩ := R2
    (try simp only at J1)
    (try simp only at J2)
    cases jo
    case' false =>
      clear HJ
      go_wp2_with fail
      refine ((J1.out _ (HSL2.out.bl hb))).mono ?_
      rintro e w' ⟨rfl, hbn⟩
      have hb := hb.trans hbn
      clear hbn
      go_wp2_with fail
      refine ((J2.out _ (HSL2.out.bl hb))).mono ?_
      rintro e w' ⟨rfl, hbn⟩
      have hb := hb.trans hbn
      clear hbn
      have HBW := Lib.hid (HBW.out.trans hb)
      clear hb
    case' true =>
      obtain ⟨i, hi1, hi2, hi3⟩ := HJ.out rfl
      (try simp only at hi1)
      subst hi1
      rw [HL2.out] at hi2
      have J3 := Lib.hid (fun c' W hl => implJumpIn_any B2 i c' (l2.take i) f2 W hl)
      rw [hi3] at J3
      clear hi3 HJ
      obtain ⟨b3, o3, x3, rfl, ex3, c3⟩ := HSL2.out.int (i := 0) (by omega)
      clear ex3 c3
      go_wp2_with fail
      refine ((J1.out _ (HSL2.out.bl hb))).mono ?_
      rintro e w' ⟨rfl, hbn⟩
      have hb := hb.trans hbn
      clear hbn
      go_wp2_with fail
      refine ((J2.out _ (HSL2.out.bl hb))).mono ?_
      rintro e w' ⟨rfl, hbn⟩
      have hb := hb.trans hbn
      clear hbn
      have k4 : (i : Int) ≤ (d2 : Int) := by omega
      go_wp2_with fail
      refine ((J3.out _ _ ((HSL2.out.bl hb).take_ (by omega)))).mono ?_
      rintro e w' ⟨rfl, hbn⟩
      have hb := hb.trans hbn
      clear hbn
      have HBW := Lib.hid (HBW.out.trans hb)
      clear hb k4
    all_goals
      go_wp2_with fail
      refine (drawIsStuck_any A n c code _ (HS.out.bl HBW.out) HBY.out).mono ?_
      rintro e w3 ⟨B3, m3, d3, l3, f3, rfl, hsl, hm3, hmd3, hbn⟩
      have HSL3 := Lib.hid hsl
      have HBW := Lib.hid (HBW.out.trans hbn)
      have hb := Bl.refl w3
      clear hsl hbn
      have I1 := Lib.hid (fun W hl => implIsStuck_any B3 m3 d3 l3 f3 W hl hmd3)
      have I2 := Lib.hid (fun W hl => specIsStuck_any B3 m3 d3 l3 f3 W hl)
      have I3 := Lib.hid (fun W hl => implLongest_any B3 m3 d3 l3 0 W hl hmd3)
      have HI := Lib.hid (stuck_calm (l := l3) (n := f3))
      generalize stuckR l3 f3 = R3 at *
      generalize longR l3 0 = R4 at *
      obtain ⟨sb, so⟩ := R3
      obtain ⟨⟨la, lb⟩, lo⟩ := R4
      (try simp only at I1)
      (try simp only at I2)
      (try simp only at I3)
      cases sb
      · clear HI
        go_wp2_with fail
        refine ((I1.out _ (HSL3.out.bl hb))).mono ?_
        rintro e w' ⟨rfl, hbn⟩
        have hb := hb.trans hbn
        clear hbn
        go_wp2_with fail
        refine ((I2.out _ (HSL3.out.bl hb))).mono ?_
        rintro e w' ⟨rfl, hbn⟩
        have hb := hb.trans hbn
        clear hbn
        go_wp2_with fail
        go_ret
        exact ⟨by first | rfl | simp, HBW.out.trans hb⟩
      · obtain ⟨q1, q2⟩ := HI.out rfl
        (try simp only at q1)
        (try simp only at q2)
        subst q1
        go_wp2_with fail
        refine ((I1.out _ (HSL3.out.bl hb))).mono ?_
        rintro e w' ⟨rfl, hbn⟩
        have hb := hb.trans hbn
        clear hbn
        go_wp2_with fail
        refine ((I2.out _ (HSL3.out.bl hb))).mono ?_
        rintro e w' ⟨rfl, hbn⟩
        have hb := hb.trans hbn
        clear hbn
        go_wp2_with fail
        refine ((I3.out _ (HSL3.out.bl hb))).mono ?_
        rintro e w' ⟨rfl, hbn⟩
        have hb := hb.trans hbn
        clear hbn
        have k5 : decide (f3 ≤ lb) = true := decide_eq_true q2
        go_wp2_with fail
        go_ret
        exact ⟨by first | rfl | simp [q2], HBW.out.trans hb⟩
namespace fnSeriesDone
set_option maxRecDepth 100000 in
theorem lifted (os : Os) (started : os.Started) (H : Type) (enc : TypeId × Value → H) :
    ReturnsInHanded {} Try.checked os 6 .any (Rows.fnSeriesSpec.pre6 enc Try.prog Try.f6 Rows.fnSeriesRow.domain false) (Rows.fnSeriesSpec.post enc Try.prog Try.f6 false true false false) := by
  refine returnsInHanded_of_change (C := Try.checked) seatOwn started (by kernel_rfl) Try.func6
    (ChangeSpec.witness6 (enc := enc) (C := Try.checked) false ⟨#[], #[.slice none 0 0], []⟩ 8 (by kernel_rfl) (by kernel_rfl) (by kernel_rfl) (by kernel_rfl)) ?_
  intro W base args ds gs before hval0 hW hcnd _
  have hval : ∀ (j : Nat) t v, Try.f6.params[j]? = some t → args[j]? = some v → Value.okWide Try.prog W .any base t v := hval0
  have hW' := hW
  obtain ⟨p, q, hA0, hV, rfl, hfz, hnd⟩ := hW
  have hA : DataW.TrodAll enc Try.prog W 0 (fun _ => true) true Try.f6.params.toList args.toList ds p := hA0
  rw [Try.params6] at hA hval
  obtain ⟨v0, vs0, d0, ds0, p0, q0, hargs, rfl, rfl, h0, r0⟩ := trodAll_cons hA
  obtain ⟨rfl, rfl, rfl⟩ := trodAll_nil r0
  obtain rfl : args = #[v0] := by cases args; simp_all
  obtain ⟨rfl, rfl⟩ := trodVars_none hV
  have k0 := h0
  have lt0 : ∀ x ∈ p0, x.block < W.heap.size := by obtain ⟨m, hm⟩ := k0; exact DataW.trod_lt m _ _ _ hm
  obtain ⟨A0, n0, c0, rfl⟩ := okWide_slice Try.underlying45 (hval 0 45 v0 rfl rfl)
  obtain ⟨l0, s0⟩ := sl_of_bytes Try.underlying45 Try.underlying5 (by kernel_rfl) h0
  clear hA0 hval0
  refine (walk_FnSeries A0 n0 c0 l0 W s0).mono fun e W' ⟨he, bel⟩ => ?_
  subst he
  exact ⟨_, rfl, _, _, _, [], _, [], hW', trodAll_mk1 (shut_bool Try.underlying4 _), (trodAll_cons_mk (Below.trod seatLaid (by kernel_rfl) (of_decide_eq_true (by kernel_rfl)) k0 bel lt0) trodAll_mk0), rfl, bel.frame _, fun h => by cases h⟩
theorem over : Rows.fnSeriesRow.holds Try.pinned (OpenSpec.ofChange Rows.fnSeriesSpec) :=
  OpenClaim.holds_of_wide 6 Try.f6 rfl rfl rfl rfl rfl rfl rfl ⟨rfl, rfl, rfl, rfl, rfl⟩ rfl rfl rfl rfl rfl (by kernel_rfl) Try.func6 (by kernel_rfl)
    (of_decide_eq_true (by kernel_rfl)) (by unfold Func.isWrapper; first | (rw [if_pos (by decide +kernel)]; kernel_rfl) | (rw [if_neg (by decide +kernel)]; exact ⟨rfl, rfl⟩))
    (fun os started H enc _ => lifted os started H enc)
theorem proved : Rows.FnSeriesSaid := over
#print axioms proved
end fnSeriesDone

end Go.Proofs.Ytmnbbnboaokgjaa
