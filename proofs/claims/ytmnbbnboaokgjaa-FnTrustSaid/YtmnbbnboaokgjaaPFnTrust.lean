/- FnTrust: the law returns true for all bytes. No condition. -/
import Derived.Test.YtmnbbnboaokgjaaC6f
import Derived.Test.YtmnbbnboaokgjaaD6
import Derived.Test.YtmnbbnboaokgjaaLB
namespace Go.Proofs.Ytmnbbnboaokgjaa
open Go.ChangeShapes Go.WideShapes Go.ChangeAt Go.RowKit Go.Deep Go.Joins
/-- A struct of two integers laid in a box of its own, in the world behind a call. -/
theorem box2 (w : World) (x y : Int) (T : TypeId) : Hid ((w.alloc (.cells #[.int .i64 x, .int .i64 y] T)).heap[w.heap.size]? = some (.cells #[.int .i64 x, .int .i64 y] T (0, 0))) := heap_alloc_new w _
set_option maxRecDepth 100000 in
set_option maxHeartbeats 16000000 in
theorem walk_FnTrust (A : Option Addr) (n c : Nat) (code : List Int) (w : World) (s : Sl cb 1 w A n code ∧ Bytes code) :
    Calls Try.prog 5 #[.slice A n c] w fun e w' => e = .returned (.bool true) ∧ Bl w w' := by
  obtain ⟨hs, hby⟩ := s
  have HV := Lib.hid (rBig_any A n c w hs.le)
  by_cases hbig : 65536 < n
  · have e : decide (65536 < n) = true := by simpa using hbig
    rw [e] at HV
    go_enter Try.func5, Try.ntmps5
    go_wp2_with fail
    refine HV.out.mono ?_
    rintro e w' ⟨rfl, rfl⟩
    go_wp2_with fail
    go_ret
    exact ⟨rfl, Bl.refl _⟩
  have e : decide (65536 < n) = false := by simpa using hbig
  rw [e] at HV
  have HS := Lib.hid hs
  have HBY := Lib.hid hby
  clear e hs hby
  go_enter Try.func5, Try.ntmps5
  go_wp2_with fail
  refine HV.out.mono ?_
  rintro e w' ⟨rfl, rfl⟩
  go_wp2_with fail
  refine (drawTrustedBound_any A n c code _ HS.out HBY.out).mono ?_
  rintro e w1 ⟨B, m, d, l, f, rfl, hsl, hm, hf0, hf1, hb1⟩
  have HSL := Lib.hid hsl
  have HBW := Lib.hid hb1
  clear hsl hb1
  have H1 := Lib.hid (fun W hl => implTrustedBound_any B m d l f W hl)
  have H2 := Lib.hid (fun W hl => specTrustedBound_any B m d l f W hl)
  have H3 := Lib.hid (fun W hl => implTrustedBound_any B m d l (f + 1) W hl)
  have HM := Lib.hid (fun h1 h2 => trust_mono (l := l) (f := f) h1 h2)
  generalize trustR l f = R1 at *
  generalize trustR l (f + 1) = R2 at *
  obtain ⟨⟨lo, hi⟩, fo⟩ := R1
  obtain ⟨⟨lo2, hi2⟩, fo2⟩ := R2
  (try simp only at H1)
  (try simp only at H2)
  (try simp only at H3)
  go_wp2_with fail
  refine (H1.out _ HSL.out).mono ?_
  rintro e w2 ⟨rfl, hbn⟩
  have hbx := hbn.alloc (.cells #[.int .i64 lo, .int .i64 hi] 25)
  have E1 := box2 w2 lo hi 25
  have HSL := Lib.hid (HSL.out.bl hbx)
  have HBW := Lib.hid (HBW.out.trans hbx)
  clear hbn hbx
  go_wp2_with fail
  refine (H2.out _ HSL.out).mono ?_
  rintro e w3 ⟨rfl, hbn⟩
  have hbx := hbn.alloc (.cells #[.int .i64 lo, .int .i64 hi] 25)
  have E2 := box2 w3 lo hi 25
  have E1 := Lib.hid (block_of hbx E1.out)
  have HSL := Lib.hid (HSL.out.bl hbx)
  have HBW := Lib.hid (HBW.out.trans hbx)
  obtain ⟨q0, q1⟩ := two_cell E1.out
  obtain ⟨r0, r1⟩ := two_cell E2.out
  clear hbn hbx
  go_wp2_with fail
  clear q0 q1 r0 r1
  refine (H3.out _ HSL.out).mono ?_
  rintro e w4 ⟨rfl, hbn⟩
  have hbx := hbn.alloc (.cells #[.int .i64 lo2, .int .i64 hi2] 25)
  have E3 := box2 w4 lo2 hi2 25
  have E1 := Lib.hid (block_of hbx E1.out)
  have HBW := Lib.hid (HBW.out.trans hbx)
  obtain ⟨q0, q1⟩ := two_cell E1.out
  obtain ⟨r0, r1⟩ := two_cell E3.out
  clear hbn hbx H1 H2 H3 HSL E2
  have HG : Hid (fo = false ∨ (fo = true ∧ fo2 = false) ∨ (fo = true ∧ fo2 = true ∧ decide (lo < lo2) = false ∧ decide (hi2 < hi) = false)) := by
    cases fo
    · exact .inl rfl
    · cases fo2
      · exact .inr (.inl ⟨rfl, rfl⟩)
      · obtain ⟨m1, m2⟩ := HM.out rfl rfl
        (try simp only at m1)
        (try simp only at m2)
        exact .inr (.inr ⟨rfl, rfl, decide_eq_false_iff_not.2 (by omega), decide_eq_false_iff_not.2 (by omega)⟩)
  clear HM
  rcases HG.out with rfl | ⟨rfl, rfl⟩ | ⟨rfl, rfl, g1, g2⟩
  all_goals
    clear HG
    go_wp2_with fail
    (try clear g1 g2)
    clear q0 q1 r0 r1 E1 E3
    refine (drawFewestFaults_any A n c code _ (HS.out.bl HBW.out) HBY.out).mono ?_
    rintro e w5 ⟨B2, m2, d2, l2, rfl, hsl, hm2, hbn⟩
    have HSL := Lib.hid hsl
    have HBW := Lib.hid (HBW.out.trans hbn)
    clear hsl hbn
    have K1 := Lib.hid (fun W hl => implFewestFaults_any B2 m2 d2 l2 W hl)
    have K2 := Lib.hid (fun W hl => specFewestFaults_any B2 m2 d2 l2 W hl)
    have K3 := Lib.hid (fun W hl => implTrustedBound_any B2 m2 d2 l2 (fewR l2).1 W hl)
    have K4 := Lib.hid (fun W hl => implTrustedBound_any B2 m2 d2 l2 ((fewR l2).1 - 1) W hl)
    have HFF := Lib.hid (few_facts (l := l2))
    have hfr := few_rng l2
    generalize fewR l2 = P at *
    obtain ⟨nf, fi⟩ := P
    (try simp only at K1)
    (try simp only at K2)
    (try simp only at K3)
    (try simp only at K4)
    (try simp only at hfr)
    obtain ⟨hfr0, hfr1⟩ := hfr
    have hb := Bl.refl w5
    cases fi
    case' true =>
      obtain ⟨h1, h2⟩ := HFF.out rfl
      (try simp only at h1)
      (try simp only at h2)
      rw [h1] at K3
      rw [h2] at K4
      generalize (trustR l2 nf).1 = b3 at *
      generalize (trustR l2 (nf - 1)).1 = b4 at *
      obtain ⟨lo3, hi3⟩ := b3
      obtain ⟨lo4, hi4⟩ := b4
      (try simp only at K3)
      (try simp only at K4)
      clear h1 h2 HFF
      go_wp2_with fail
      refine ((K1.out _ (HSL.out.bl hb))).mono ?_
      rintro e w' ⟨rfl, hbn⟩
      have hb := hb.trans hbn
      clear hbn
      go_wp2_with fail
      refine ((K2.out _ (HSL.out.bl hb))).mono ?_
      rintro e w' ⟨rfl, hbn⟩
      have hb := hb.trans hbn
      clear hbn
      go_wp2_with fail
      refine ((K3.out _ (HSL.out.bl hb))).mono ?_
      rintro e w' ⟨rfl, hbn⟩
      have hb := hb.trans hbn
      clear hbn
      have hb := hb.alloc (.cells #[.int .i64 lo3, .int .i64 hi3] 25)
      go_wp2_with fail
      refine ((K4.out _ (HSL.out.bl hb))).mono ?_
      rintro e w' ⟨rfl, hbn⟩
      have hb := hb.trans hbn
      clear hbn
      have hb := hb.alloc (.cells #[.int .i64 lo4, .int .i64 hi4] 25)
      have HBW := Lib.hid (HBW.out.trans hb)
      clear hb
    case' false =>
      clear HFF
      go_wp2_with fail
      refine ((K1.out _ (HSL.out.bl hb))).mono ?_
      rintro e w' ⟨rfl, hbn⟩
      have hb := hb.trans hbn
      clear hbn
      go_wp2_with fail
      refine ((K2.out _ (HSL.out.bl hb))).mono ?_
      rintro e w' ⟨rfl, hbn⟩
      have hb := hb.trans hbn
      clear hbn
      have HBW := Lib.hid (HBW.out.trans hb)
      clear hb
    all_goals
      clear K1 K2 K3 K4 HSL
      go_wp2_with fail
      refine (drawCommonBound_any A n c code _ (HS.out.bl HBW.out) HBY.out).mono ?_
      rintro e w6 ⟨B3, m3, d3, l3, rfl, hsl, hm3, hbn⟩
      have HSL := Lib.hid hsl
      have HBW := Lib.hid (HBW.out.trans hbn)
      clear hsl hbn
      have J1 := Lib.hid (fun W hl => implCommonBound_any B3 m3 d3 l3 W hl)
      have J2 := Lib.hid (fun W hl => specCommonBound_any B3 m3 d3 l3 W hl)
      have J3 : Hid (∀ W, Sl Bound.cs 2 W B3 m3 l3 → Calls Try.prog 25 #[.slice B3 m3 d3, .int .i64 0] W (TrRes (commonR l3).1 (commonR l3).2 W)) := fun W hl => implTrustedBound_any B3 m3 d3 l3 0 W hl
      generalize commonR l3 = R3 at *
      obtain ⟨⟨lo5, hi5⟩, fo5⟩ := R3
      (try simp only at J1)
      (try simp only at J2)
      (try simp only at J3)
      go_wp2_with fail
      refine (J1.out _ HSL.out).mono ?_
      rintro e w7 ⟨rfl, hbn⟩
      have hbx := hbn.alloc (.cells #[.int .i64 lo5, .int .i64 hi5] 25)
      have E1 := box2 w7 lo5 hi5 25
      have HSL := Lib.hid (HSL.out.bl hbx)
      have HBW := Lib.hid (HBW.out.trans hbx)
      clear hbn hbx
      go_wp2_with fail
      refine (J2.out _ HSL.out).mono ?_
      rintro e w8 ⟨rfl, hbn⟩
      have hbx := hbn.alloc (.cells #[.int .i64 lo5, .int .i64 hi5] 25)
      have E2 := box2 w8 lo5 hi5 25
      have E1 := Lib.hid (block_of hbx E1.out)
      have HSL := Lib.hid (HSL.out.bl hbx)
      have HBW := Lib.hid (HBW.out.trans hbx)
      obtain ⟨q0, q1⟩ := two_cell E1.out
      obtain ⟨r0, r1⟩ := two_cell E2.out
      clear hbn hbx
      go_wp2_with fail
      clear q0 q1 r0 r1 E2
      refine (J3.out _ HSL.out).mono ?_
      rintro e w9 ⟨rfl, hbn⟩
      have hbx := hbn.alloc (.cells #[.int .i64 lo5, .int .i64 hi5] 25)
      have E2 := box2 w9 lo5 hi5 25
      have E1 := Lib.hid (block_of hbx E1.out)
      have HBW := Lib.hid (HBW.out.trans hbx)
      obtain ⟨q0, q1⟩ := two_cell E1.out
      obtain ⟨r0, r1⟩ := two_cell E2.out
      clear hbn hbx
      go_wp2_with fail
      go_ret
      exact ⟨by first | rfl | simp, HBW.out⟩
namespace fnTrustDone
set_option maxRecDepth 100000 in
theorem lifted (os : Os) (started : os.Started) (H : Type) (enc : TypeId × Value → H) :
    ReturnsInHanded {} Try.checked os 5 .any (Rows.fnTrustSpec.pre6 enc Try.prog Try.f5 Rows.fnTrustRow.domain false) (Rows.fnTrustSpec.post enc Try.prog Try.f5 false true false false) := by
  refine returnsInHanded_of_change (C := Try.checked) seatOwn started (by kernel_rfl) Try.func5
    (ChangeSpec.witness6 (enc := enc) (C := Try.checked) false ⟨#[], #[.slice none 0 0], []⟩ 8 (by kernel_rfl) (by kernel_rfl) (by kernel_rfl) (by kernel_rfl)) ?_
  intro W base args ds gs before hval0 hW hcnd _
  have hval : ∀ (j : Nat) t v, Try.f5.params[j]? = some t → args[j]? = some v → Value.okWide Try.prog W .any base t v := hval0
  have hW' := hW
  obtain ⟨p, q, hA0, hV, rfl, hfz, hnd⟩ := hW
  have hA : DataW.TrodAll enc Try.prog W 0 (fun _ => true) true Try.f5.params.toList args.toList ds p := hA0
  rw [Try.params5] at hA hval
  obtain ⟨v0, vs0, d0, ds0, p0, q0, hargs, rfl, rfl, h0, r0⟩ := trodAll_cons hA
  obtain ⟨rfl, rfl, rfl⟩ := trodAll_nil r0
  obtain rfl : args = #[v0] := by cases args; simp_all
  obtain ⟨rfl, rfl⟩ := trodVars_none hV
  have k0 := h0
  have lt0 : ∀ x ∈ p0, x.block < W.heap.size := by obtain ⟨m, hm⟩ := k0; exact DataW.trod_lt m _ _ _ hm
  obtain ⟨A0, n0, c0, rfl⟩ := okWide_slice Try.underlying45 (hval 0 45 v0 rfl rfl)
  obtain ⟨l0, s0⟩ := sl_of_bytes Try.underlying45 Try.underlying5 (by kernel_rfl) h0
  clear hA0 hval0
  refine (walk_FnTrust A0 n0 c0 l0 W s0).mono fun e W' ⟨he, bel⟩ => ?_
  subst he
  exact ⟨_, rfl, _, _, _, [], _, [], hW', trodAll_mk1 (shut_bool Try.underlying4 _), (trodAll_cons_mk (Below.trod seatLaid (by kernel_rfl) (of_decide_eq_true (by kernel_rfl)) k0 bel lt0) trodAll_mk0), rfl, bel.frame _, fun h => by cases h⟩
theorem over : Rows.fnTrustRow.holds Try.pinned (OpenSpec.ofChange Rows.fnTrustSpec) :=
  OpenClaim.holds_of_wide 5 Try.f5 rfl rfl rfl rfl rfl rfl rfl ⟨rfl, rfl, rfl, rfl, rfl⟩ rfl rfl rfl rfl rfl (by kernel_rfl) Try.func5 (by kernel_rfl)
    (of_decide_eq_true (by kernel_rfl)) (by unfold Func.isWrapper; first | (rw [if_pos (by decide +kernel)]; kernel_rfl) | (rw [if_neg (by decide +kernel)]; exact ⟨rfl, rfl⟩))
    (fun os started H enc _ => lifted os started H enc)
theorem proved : Rows.FnTrustSaid := over
#print axioms proved
end fnTrustDone

end Go.Proofs.Ytmnbbnboaokgjaa
