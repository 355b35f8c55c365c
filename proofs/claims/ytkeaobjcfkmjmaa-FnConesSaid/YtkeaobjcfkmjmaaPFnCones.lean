/- FnCones: the law returns true for all bytes. No condition. -/
import Derived.Test.YtkeaobjcfkmjmaaQ7d
import Derived.Test.YtkeaobjcfkmjmaaC7e
import Derived.Test.YtkeaobjcfkmjmaaD7b
import Derived.Test.YtkeaobjcfkmjmaaLB
namespace Go.Proofs.Ytkeaobjcfkmjmaa
open Go.ChangeShapes Go.WideShapes Go.ChangeAt Go.RowKit Go.Deep Go.Joins
set_option maxRecDepth 100000 in
set_option maxHeartbeats 16000000 in
theorem walk_FnCones (A : Option Addr) (n c : Nat) (code : List Int) (w : World) (s : Sl cb 1 w A n code ∧ Bytes code) :
    Calls Try.prog 9 #[.slice A n c] w fun e w' => e = .returned (.bool true) ∧ Bl w w' := by
  obtain ⟨hs, hby⟩ := s
  have HV := Lib.hid (rBig_any A n c w hs.le)
  by_cases hbig : 65536 < n
  · have e : decide (65536 < n) = true := by simpa using hbig
    rw [e] at HV
    go_enter Try.func9, Try.ntmps9
    go_wp2_with fail
    refine HV.out.mono ?_
    rintro e w' ⟨rfl, rfl⟩
    go_wp2_with fail
    go_ret
    exact ⟨rfl, Bl.refl _⟩
  have e : decide (65536 < n) = false := by simpa using hbig
  rw [e] at HV
  have HS := Lib.hid hs
  have HBY := Lib.hid hby
  clear e hs hby
  go_enter Try.func9, Try.ntmps9
  go_wp2_with fail
  refine HV.out.mono ?_
  rintro e w' ⟨rfl, rfl⟩
  go_wp2_with fail
  refine (drawNeededGap_any A n c code _ HS.out HBY.out).mono ?_
  rintro e w1 ⟨x, y, rfl, hb1⟩
  have HBW := Lib.hid hb1
  have H1 := Lib.hid (fun W => implNeededGap_any x y W)
  have H2 := Lib.hid (fun W => implNeededGap_any y x W)
  have H3 := Lib.hid (fun W => specNeededGap_any x y W)
  rw [gap_mutual x y] at H2
  generalize neededGapR x y = R at *
  obtain ⟨gz, gk⟩ := R
  (try simp only at H1)
  (try simp only at H2)
  (try simp only at H3)
  clear hb1
  have hb := Bl.refl w1
  go_wp2_with fail
  refine ((H1.out _)).mono ?_
  rintro e w' ⟨rfl, hbn⟩
  have hb := hb.trans hbn
  clear hbn
  go_wp2_with fail
  refine ((H2.out _)).mono ?_
  rintro e w' ⟨rfl, hbn⟩
  have hb := hb.trans hbn
  clear hbn
  go_wp2_with fail
  refine ((H3.out _)).mono ?_
  rintro e w' ⟨rfl, hbn⟩
  have hb := hb.trans hbn
  clear hbn
  have HBW := Lib.hid (HBW.out.trans hb)
  clear hb H1 H2 H3
  go_wp2_with fail
  refine (drawMayShareLock_any A n c code _ (HS.out.bl HBW.out) HBY.out).mono ?_
  rintro e w2 ⟨B, m, d, l, p, rfl, hsl, hm, hmd, hbn⟩
  have HSL := Lib.hid hsl
  have HBW := Lib.hid (HBW.out.trans hbn)
  clear hsl hbn
  have H1 := Lib.hid (fun W hl => implMayShareLock_any B m d l p W hl hmd)
  have H2 := Lib.hid (fun W hl => specMayShareLock_any B m d l p W hl)
  generalize shareR l p = R at *
  obtain ⟨may, told⟩ := R
  (try simp only at H1)
  (try simp only at H2)
  have hb := Bl.refl w2
  go_wp2_with fail
  refine ((H1.out _ (HSL.out.bl hb))).mono ?_
  rintro e w' ⟨rfl, hbn⟩
  have hb := hb.trans hbn
  clear hbn
  go_wp2_with fail
  refine ((H2.out _ (HSL.out.bl hb))).mono ?_
  rintro e w' ⟨rfl, hbn⟩
  have hb := hb.trans hbn
  clear hbn
  have HBW := Lib.hid (HBW.out.trans hb)
  clear hb H1 H2 HSL
  go_wp2_with fail
  refine (drawMostDangerous_any A n c code _ (HS.out.bl HBW.out) HBY.out).mono ?_
  rintro e w3 ⟨B2, m2, d2, l2, rfl, hsl, hm2, hmd2, hbn⟩
  have HSL := Lib.hid hsl
  have HLL := Lib.hid hsl.1
  have HBW := Lib.hid (HBW.out.trans hbn)
  clear hsl hbn
  have H1 := Lib.hid (fun W hl => implMostDangerous_any B2 m2 d2 l2 W hl hmd2)
  have H2 := Lib.hid (fun W hl => specMostDangerous_any B2 m2 d2 l2 W hl hmd2)
  have H3 := Lib.hid (fun W hl => isCargoList_any B2 m2 d2 l2 W hl hmd2)
  have H4 := Lib.hid (fun W hl => implMayShareLock_any B2 m2 d2 l2 10 W hl hmd2)
  have HF := Lib.hid (fun id (h : dangR l2 = (id, true)) i p hp he => cones_facts h (i := i) (p := p) hp he)
  have HK := Lib.hid (dang_known l2)
  generalize cargoOk l2 = ok at *
  obtain ⟨R, hR⟩ : ∃ R, dangR l2 = R := ⟨_, rfl⟩
  rw [hR] at H1 H2 HK
  have HR := Lib.hid hR
  clear hR
  obtain ⟨id, known⟩ := R
  (try simp only at H1)
  (try simp only at H2)
  (try simp only at HK)
  have HM : Hid (known = (ok && decide (0 < (m2 : Int)))) := by
    show _ = _
    rw [HK.out, HLL.out]
    congr 1
    simp
  cases known
  case' false =>
    have hq : ok = false ∨ (ok = true ∧ m2 = 0) := by
      have := HM.out
      cases ok
      · exact .inl rfl
      · refine .inr ⟨rfl, ?_⟩
        by_cases h0 : m2 = 0
        · exact h0
        · have h1 : (0 : Int) < (m2 : Int) := by omega
          have h2 : decide (0 < (m2 : Int)) = true := decide_eq_true h1
          rw [h2] at this
          cases this
    rcases hq with rfl | ⟨rfl, rfl⟩
    all_goals
      have hb := Bl.refl w3
      go_wp2_with fail
      refine ((H1.out _ (HSL.out.bl hb))).mono ?_
      rintro e w' ⟨rfl, hbn⟩
      have hb := hb.trans hbn
      clear hbn
      go_wp2_with fail
      refine ((H2.out _ (HSL.out.bl hb))).mono ?_
      rintro e w' ⟨rfl, hbn⟩
      have hb := hb.trans hbn
      clear hbn
      go_wp2_with fail
      refine ((H3.out _ (HSL.out.bl hb))).mono ?_
      rintro e w' ⟨rfl, hbn⟩
      have hb := hb.trans hbn
      clear hbn
      have HBW := Lib.hid (HBW.out.trans hb)
      clear hb H1 H2 H3 HK HM HR HF H4
      go_wp2_with fail
      go_loopw [22] (fun i wr => i = .int .i64 0 ∧ Bl w wr) (fun _ _ => 0)
      case atStart => exact ⟨rfl, HBW.out⟩
      case round =>
        obtain ⟨rfl, hb⟩ := hrel
        go_wp2_with fail
        all_goals
          go_ret
          exact ⟨by first | rfl | simp, hb⟩
  case' true =>
    have hq : ok = true ∧ 0 < m2 := by
      have := HM.out
      cases ok
      · cases this
      · refine ⟨rfl, ?_⟩
        by_cases h0 : m2 = 0
        · subst h0; cases this
        · omega
    obtain ⟨rfl, hq⟩ := hq
    have hq1 : (0 : Int) < (m2 : Int) := by omega
    have hb := Bl.refl w3
    go_wp2_with fail
    refine ((H1.out _ (HSL.out.bl hb))).mono ?_
    rintro e w' ⟨rfl, hbn⟩
    have hb := hb.trans hbn
    clear hbn
    go_wp2_with fail
    refine ((H2.out _ (HSL.out.bl hb))).mono ?_
    rintro e w' ⟨rfl, hbn⟩
    have hb := hb.trans hbn
    clear hbn
    go_wp2_with fail
    refine ((H3.out _ (HSL.out.bl hb))).mono ?_
    rintro e w' ⟨rfl, hbn⟩
    have hb := hb.trans hbn
    clear hbn
    have HSL := Lib.hid (HSL.out.bl hb)
    have HBW := Lib.hid (HBW.out.trans hb)
    clear hb H1 H2 H3 HK HM
    obtain ⟨wo, hwo⟩ : ∃ wo : World, wo = w' := ⟨_, rfl⟩
    subst hwo
    go_wp2_with fail
    go_loopw [22] (fun i wr => ∃ k : Nat, k ≤ m2 ∧ i = .int .i64 k ∧ Bl wo wr) (fun i _ => m2 - (intOf i).toNat)
    case atStart => exact ⟨0, Nat.zero_le _, rfl, Bl.refl _⟩
    case round =>
      obtain ⟨k, hk, rfl, hb⟩ := hrel
      by_cases hlt : k < m2
      · obtain ⟨b1, o1, pp, rfl, ep, p1, p2, p3⟩ := HSL.out.Cargo hlt
        have g1 := p1 _ hb
        by_cases hid : pp.Id = id
        · obtain ⟨hf1, hf2⟩ := HF.out id HR.out k pp ep hid
          have HF1 := Lib.hid hf1
          have H4' := Lib.hid (H4.out)
          rw [hf2] at H4'
          have hq2 : (pp.Id != id) = false := by simp [hid]
          clear hf1 hf2
          go_wp2_with fail
          go_loopw [23] (fun i wr => ∃ j : Nat, j ≤ m2 ∧ i = .int .i64 j ∧ Bl wo wr) (fun i _ => m2 - (intOf i).toNat)
          case atStart => exact ⟨0, Nat.zero_le _, rfl, hb⟩
          case round =>
            clear hb g1
            obtain ⟨j, hj, rfl, hb⟩ := hrel
            by_cases hlt2 : j < m2
            · obtain ⟨b2, o2, qq, hA2, eq, q1, q2, q3⟩ := HSL.out.Cargo hlt2
              injection hA2 with hA2; injection hA2 with hA2 hA2'; subst hA2 hA2'
              have hle := HF1.out j qq eq
              have hq3 : decide (pp.Cones < qq.Cones) = false := decide_eq_false (by omega)
              have hq4 : ¬ pp.Cones < qq.Cones := by omega
              clear eq hle
              go_wp2_with fail
              refine region_bl (by kernel_rfl) (by kernel_rfl) hb ?_
              repeat' (first | go_big_quiet_skip | (go_big_quiet_want; go_simp; (try go_bits); first | (refine ⟨_, fun _ _ => rfl, ?_⟩; go_big_quiet_on) | (apply Exists.intro; refine ⟨fun W hW => ?_, ?_⟩; (· go_simp; (try go_bits); rfl); go_big_quiet_on)))
              apply wpQuiet_nil
              intro W hb
              go_wp2_with fail
              first | exact ⟨⟨j + 1, by omega, by go_num, hb⟩, by simp [intOf]; omega⟩ | (refine ⟨?_, by simp [intOf]; omega⟩; (repeat apply Exists.intro); exact ⟨⟨j + 1, by omega, by go_num, hb⟩, rfl⟩)
            · have e : j = m2 := by omega
              subst e
              go_wp2_with fail
              refine (H4'.out _ (HSL.out.bl hb)).mono ?_
              rintro e w9 ⟨rfl, hbn⟩
              have hb := hb.trans hbn
              have g3 := p3 _ hb
              clear hbn
              go_wp2_with fail
              first | exact ⟨⟨k + 1, by omega, by go_num, hb⟩, by simp [intOf]; omega⟩ | (refine ⟨?_, by simp [intOf]; omega⟩; (repeat apply Exists.intro); exact ⟨⟨k + 1, by omega, by go_num, hb⟩, rfl⟩)
        · have hq2 : (pp.Id != id) = true := by simpa using hid
          go_wp2_with fail
          first | exact ⟨⟨k + 1, by omega, by go_num, hb⟩, by simp [intOf]; omega⟩ | (refine ⟨?_, by simp [intOf]; omega⟩; (repeat apply Exists.intro); exact ⟨⟨k + 1, by omega, by go_num, hb⟩, rfl⟩)
      · have e : k = m2 := by omega
        subst e
        go_wp2_with fail
        go_ret
        exact ⟨by first | rfl | simp, HBW.out.trans hb⟩
namespace fnConesDone
set_option maxRecDepth 100000 in
theorem lifted (os : Os) (started : os.Started) (H : Type) (enc : TypeId × Value → H) :
    ReturnsInHanded {} Try.checked os 9 .any (Rows.fnConesSpec.pre6 enc Try.prog Try.f9 Rows.fnConesRow.domain false) (Rows.fnConesSpec.post enc Try.prog Try.f9 false true false false) := by
  refine returnsInHanded_of_change (C := Try.checked) seatOwn started (by kernel_rfl) Try.func9
    (ChangeSpec.witness6 (enc := enc) (C := Try.checked) false ⟨#[], #[.slice none 0 0], []⟩ 8 (by kernel_rfl) (by kernel_rfl) (by kernel_rfl) (by kernel_rfl)) ?_
  intro W base args ds gs before hval0 hW hcnd _
  have hval : ∀ (j : Nat) t v, Try.f9.params[j]? = some t → args[j]? = some v → Value.okWide Try.prog W .any base t v := hval0
  have hW' := hW
  obtain ⟨p, q, hA0, hV, rfl, hfz, hnd⟩ := hW
  have hA : DataW.TrodAll enc Try.prog W 0 (fun _ => true) true Try.f9.params.toList args.toList ds p := hA0
  rw [Try.params9] at hA hval
  obtain ⟨v0, vs0, d0, ds0, p0, q0, hargs, rfl, rfl, h0, r0⟩ := trodAll_cons hA
  obtain ⟨rfl, rfl, rfl⟩ := trodAll_nil r0
  obtain rfl : args = #[v0] := by cases args; simp_all
  obtain ⟨rfl, rfl⟩ := trodVars_none hV
  have k0 := h0
  have lt0 : ∀ x ∈ p0, x.block < W.heap.size := by obtain ⟨m, hm⟩ := k0; exact DataW.trod_lt m _ _ _ hm
  obtain ⟨A0, n0, c0, rfl⟩ := okWide_slice Try.underlying42 (hval 0 42 v0 rfl rfl)
  obtain ⟨l0, s0⟩ := sl_of_bytes Try.underlying42 Try.underlying5 (by kernel_rfl) h0
  clear hA0 hval0
  refine (walk_FnCones A0 n0 c0 l0 W s0).mono fun e W' ⟨he, bel⟩ => ?_
  subst he
  exact ⟨_, rfl, _, _, _, [], _, [], hW', trodAll_mk1 (shut_bool Try.underlying4 _), (trodAll_cons_mk (Below.trod seatLaid (by kernel_rfl) (of_decide_eq_true (by kernel_rfl)) k0 bel lt0) trodAll_mk0), rfl, bel.frame _, fun h => by cases h⟩
theorem over : Rows.fnConesRow.holds Try.pinned (OpenSpec.ofChange Rows.fnConesSpec) :=
  OpenClaim.holds_of_wide 9 Try.f9 rfl rfl rfl rfl rfl rfl rfl ⟨rfl, rfl, rfl, rfl, rfl⟩ rfl rfl rfl rfl rfl (by kernel_rfl) Try.func9 (by kernel_rfl)
    (of_decide_eq_true (by kernel_rfl)) (by unfold Func.isWrapper; first | (rw [if_pos (by decide +kernel)]; kernel_rfl) | (rw [if_neg (by decide +kernel)]; exact ⟨rfl, rfl⟩))
    (fun os started H enc _ => lifted os started H enc)
theorem proved : Rows.FnConesSaid := over
#print axioms proved
end fnConesDone

end Go.Proofs.Ytkeaobjcfkmjmaa
