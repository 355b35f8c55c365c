/- FnRows: the law returns true for all bytes. No condition. -/
import Derived.Test.YtkeaobjcfkmjmaaD7c
import Derived.Test.YtkeaobjcfkmjmaaQ7g
import Derived.Test.YtkeaobjcfkmjmaaTm
import Derived.Test.YtkeaobjcfkmjmaaC7k
import Derived.Test.YtkeaobjcfkmjmaaC7e
import Derived.Test.YtkeaobjcfkmjmaaLB
import Derived.Deep.CutRange
namespace Go.Proofs.Ytkeaobjcfkmjmaa
open Go.ChangeShapes Go.WideShapes Go.ChangeAt Go.RowKit Go.Deep Go.Joins
theorem rows_parts (l : List Cargo) : ∃ (ids : List Int) (least : Int) (ps : List Int) (ext : Int), shortR l = ((ids, least), cargoOk l) ∧ placeR l = (ps, cargoOk l) ∧ extentR l = (ext, cargoOk l) ∧ (cargoOk l = true → least ≤ ext) ∧
    (cargoOk l = true → ∃ T : List Cargo, T.Perm l ∧ ids = T.map (·.Id) ∧ extentR T = (least, true) ∧ ps = (placeS l l.length).1) := by
  cases h : cargoOk l
  · exact ⟨[], 0, [], 0, by rw [shortR, if_neg (by simp [h])], by rw [placeR, if_neg (by simp [h])], by rw [extentR, if_neg (by simp [h])], fun e => (by cases e), fun e => (by cases e)⟩
  · obtain ⟨h1, h2, h3⟩ := short_perm h
    exact ⟨_, _, _, _, h2, place_yes h, extent_yes h, fun _ => h3, fun _ => ⟨shortT l, h1, rfl, extent_yes (perm_ok h h1), rfl⟩⟩
theorem safe_parts (l : List Cargo) (cs : List Int) : ∃ s : Bool, safeR l cs = (s, rowOk l cs) ∧ (rowOk l cs = true → ∀ T, TabOf l cs T → s = decide (T.length = 0)) := by
  cases h : rowOk l cs
  · exact ⟨false, by rw [safeR, if_neg (by simp [h])], fun e => by cases e⟩
  · refine ⟨decide ((pairsOf l cs).length = 0), by rw [safeR, if_pos h], fun _ T hT => ?_⟩
    rw [((hT.1 h).1).length_eq]
set_option maxRecDepth 100000 in
set_option maxHeartbeats 16000000 in
theorem walk_FnRows (A : Option Addr) (n c : Nat) (code : List Int) (w : World) (s : Sl cb 1 w A n code ∧ Bytes code) :
    Calls Try.prog 13 #[.slice A n c] w fun e w' => e = .returned (.bool true) ∧ Bl w w' := by
  obtain ⟨hs, hby⟩ := s
  have HV := Lib.hid (rBig_any A n c w hs.le)
  by_cases hbig : 65536 < n
  · have e : decide (65536 < n) = true := by simpa using hbig
    rw [e] at HV
    go_enter Try.func13, Try.ntmps13
    go_wp2_with fail
    refine HV.out.mono ?_
    rintro e w' ⟨rfl, rfl⟩
    go_wp2_with fail
    go_ret
    exact ⟨rfl, Bl.refl _⟩
  have e : decide (65536 < n) = false := by simpa using hbig
  rw [e] at HV
  have HS := Lib.hid hs
  have HBY := Lib.hid hby
  clear e hs hby
  go_enter Try.func13, Try.ntmps13
  go_wp2_with fail
  refine HV.out.mono ?_
  rintro e w' ⟨rfl, rfl⟩
  go_wp2_with fail
  refine (drawShortestRow_any A n c code _ HS.out HBY.out).mono ?_
  rintro e w1 ⟨B, m, d, l, rfl, hsl, hm, hmd, hb1⟩
  have HSL := Lib.hid hsl
  have HBW := Lib.hid hb1
  have K1 := Lib.hid (fun W hl => implShortestRow_any B m d l W hl hmd)
  have K2 := Lib.hid (fun W hl => specShortestRow_any B m d l W hl)
  have K3 := Lib.hid (fun W hl => implPlaceRow_any B m d l W hl hmd)
  have K4 := Lib.hid (fun W hl => specPlaceRow_any B m d l W hl hmd)
  have K5 := Lib.hid (fun W hl => implRowExtent_any B m d l W hl hmd)
  have K6 := Lib.hid (fun W hl => specRowExtent_any B m d l W hl hmd)
  obtain ⟨ids, least, ps, ext, e1, e2, e3, e4, e5⟩ := rows_parts l
  rw [e1] at K1 K2
  rw [e2] at K3 K4
  rw [e3] at K5 K6
  have HLE := Lib.hid e4
  have HT := Lib.hid e5
  have HOK : Hid (cargoOk l = true ↔ cargoOk l = true) := Iff.rfl
  have HQ : Hid (∀ b, b = cargoOk l → b = true → cargoOk l = true) := fun b h1 h2 => h1 ▸ h2
  generalize hok : cargoOk l = ok at *
  have HOKE := Lib.hid hok
  clear e1 e2 e3 e4 e5 hsl hb1 HOK HQ hok
  (try simp only at K1 K2 K3 K4 K5 K6)
  have hkk : (ok != ok) = false := by simp
  go_wp2_with fail
  refine (K1.out _ HSL.out).mono ?_
  rintro e w2 ⟨C, p, q, rfl, ho, hl, hp, hbn⟩
  have HSL := Lib.hid (HSL.out.bl hbn)
  have HBW := Lib.hid (HBW.out.trans hbn)
  have HSI := Lib.hid (Sl.of_own ci_len ho hl (by omega))
  have HLI := Lib.hid hl
  clear hbn K1 ho hl
  go_wp2_with fail
  refine (K2.out _ HSL.out).mono ?_
  rintro e w3 ⟨C2, p2, q2, rfl, ho, hl, hp2, hbn⟩
  have HSL := Lib.hid (HSL.out.bl hbn)
  have HBW := Lib.hid (HBW.out.trans hbn)
  have HSI := Lib.hid (HSI.out.bl hbn)
  have HRI := Lib.hid (rInts_any C C2 p p2 q q2 ids ids _ HSI.out (Sl.of_own ci_len ho hl (by omega)))
  simp only [eqB_self] at HRI
  clear hbn K2 ho hl
  go_wp2_with fail
  refine HRI.out.mono ?_
  rintro e w4 ⟨rfl, hbn⟩
  have HSL := Lib.hid (HSL.out.bl hbn)
  have HBW := Lib.hid (HBW.out.trans hbn)
  have HSI := Lib.hid (HSI.out.bl hbn)
  clear hbn HRI
  go_wp2_with fail
  refine (K3.out _ HSL.out).mono ?_
  rintro e w5 ⟨D, p3, q3, rfl, ho, hl, hp3, hbn⟩
  have HSL := Lib.hid (HSL.out.bl hbn)
  have HBW := Lib.hid (HBW.out.trans hbn)
  have HSI := Lib.hid (HSI.out.bl hbn)
  have HSP := Lib.hid (Sl.of_own ci_len ho hl (by omega))
  have HLP := Lib.hid hl
  have hcp := own_cap ho
  clear hbn K3 ho hl
  go_wp2_with fail
  refine (K5.out _ HSL.out).mono ?_
  rintro e w6 ⟨rfl, hbn⟩
  have HSL := Lib.hid (HSL.out.bl hbn)
  have HBW := Lib.hid (HBW.out.trans hbn)
  have HSI := Lib.hid (HSI.out.bl hbn)
  have HSP := Lib.hid (HSP.out.bl hbn)
  clear hbn K5
  go_wp2_with fail
  refine (K4.out _ HSL.out).mono ?_
  rintro e w7 ⟨D2, p4, q4, rfl, ho, hl, hp4, hbn⟩
  have HSL := Lib.hid (HSL.out.bl hbn)
  have HBW := Lib.hid (HBW.out.trans hbn)
  have HSI := Lib.hid (HSI.out.bl hbn)
  have HSP := Lib.hid (HSP.out.bl hbn)
  have HRI := Lib.hid (rInts_any D D2 p3 p4 q3 q4 ps ps _ HSP.out (Sl.of_own ci_len ho hl (by omega)))
  simp only [eqB_self] at HRI
  clear hbn K4 ho hl
  go_wp2_with fail
  refine HRI.out.mono ?_
  rintro e w8 ⟨rfl, hbn⟩
  have HSL := Lib.hid (HSL.out.bl hbn)
  have HBW := Lib.hid (HBW.out.trans hbn)
  have HSI := Lib.hid (HSI.out.bl hbn)
  have HSP := Lib.hid (HSP.out.bl hbn)
  clear hbn HRI
  go_wp2_with fail
  refine (K6.out _ HSL.out).mono ?_
  rintro e w9 ⟨rfl, hbn⟩
  have HSL := Lib.hid (HSL.out.bl hbn)
  have HBW := Lib.hid (HBW.out.trans hbn)
  have HSI := Lib.hid (HSI.out.bl hbn)
  have HSP := Lib.hid (HSP.out.bl hbn)
  clear hbn K6
  go_upto_region 14 with fail
  go_cut [121] from 101 to 121 (fun s wx => s = .bool false ∧ wx = w9)
  case first =>
    cases ok
    · go_wp2_with fail
      (first | (go_meet; exact ⟨by simp, rfl⟩) | ((repeat apply Exists.intro); exact ⟨⟨by simp, rfl⟩, rfl⟩))
    · have hle := HLE.out rfl
      have hd : decide (ext < least) = false := by simp; omega
      go_wp2_with fail
      (first | (go_meet; exact ⟨by simp [hd]; try omega, rfl⟩) | ((repeat apply Exists.intro); exact ⟨⟨by simp; try omega, rfl⟩, rfl⟩))
  case rest =>
  obtain ⟨rfl, rfl⟩ := hcut
  go_upto_if 122 with fail
  go_cut [18, 19, 20, 21, 22, 23, 24, 25, 26] from 123 to 200 (fun _ _ _ _ _ _ _ _ _ wx => Bl w wx)
  case first =>
    cases ok
    case false =>
      clear HT HLE
      go_wp2_with fail
      (first | (go_meet; exact HBW.out) | ((repeat apply Exists.intro); exact ⟨HBW.out, rfl⟩))
    case true =>
      obtain ⟨T, hT1, hT2, hT3, hT4⟩ := HT.out rfl
      subst hT2 hT4
      have hlm : l.length = m := HSL.out.1
      have hTm : T.length = m := by rw [hT1.length_eq]; exact hlm
      have hpm : m = p := by have := HLI.out; rw [List.length_map] at this; omega
      subst hpm
      have HTL := Lib.hid hTm
      have HLL := Lib.hid hlm
      have HPM := Lib.hid hT1
      have K7 := Lib.hid (fun W hl hc => implIsSafeRow_any B D m d p3 q3 l (placeS l l.length).1 W hl hc hmd)
      rw [placed_safe HOKE.out] at K7
      have K8 := Lib.hid (fun W hl hc => implUnsafe_law B m d l D p3 q3 (placeS l l.length).1 W hl hc hmd)
      rw [placed_ok HOKE.out] at K8
      have HTB := Lib.hid (fun T' h => placed_tab HOKE.out (T := T') h)
      have K9 := Lib.hid (fun E f W hl hc => implRowExtent_any E m f T W hl hc)
      rw [hT3] at K9
      generalize (placeS l l.length).1 = cells at K7 K8 HTB HSP HLP
      (try simp only at K7 K8 K9)
      clear hT1 hT3 HT HLE HLI hlm hTm
      go_wp2_with fail
      refine (K7.out _ HSL.out HSP.out).mono ?_
      rintro e w10 ⟨rfl, hbn⟩
      have HSL := Lib.hid (HSL.out.bl hbn)
      have HBW := Lib.hid (HBW.out.trans hbn)
      have HSI := Lib.hid (HSI.out.bl hbn)
      have HSP := Lib.hid (HSP.out.bl hbn)
      clear hbn K7
      go_wp2_with fail
      refine (K8.out _ HSL.out HSP.out).mono ?_
      rintro e w11 ⟨T', hT', B', m', d', g', rfl, _, hl', hI', _, hbn⟩
      obtain rfl := HTB.out T' hT'
      have hm0 : m' = 0 := by rw [← hl', hI'.len]; rfl
      subst hm0
      have HSL := Lib.hid (HSL.out.bl hbn)
      have HBW := Lib.hid (HBW.out.trans hbn)
      have HSI := Lib.hid (HSI.out.bl hbn)
      have HMR := Lib.hid (made_at Cargo.cs 3 w11 50 w11.heap.size _ rfl (Nat.le_refl _))
      have hb0 : Bl w11 (w11.alloc (.cells #[] 50)) := (Bl.refl w11).alloc _
      clear hbn K8 HTB hT' hl' hI' HSP HLP
      go_wp2_with fail
      go_loopw [22, 23, 24] (fun u i _ wr => ∃ (k : Nat) (E : Option Addr) (f : Nat), k ≤ m ∧ i = .int .i64 k ∧ u = .slice E k f ∧ Bl w11 wr ∧ Hid (wr.ownsRow w11.heap.size 50 3 (.slice E k f) k ((T.take k).flatMap Cargo.cs))) (fun _ i _ _ => m - (intOf i).toNat)
      case atStart => exact ⟨0, _, 0, Nat.zero_le _, rfl, rfl, hb0, HMR.out⟩
      case round =>
        clear HMR hb0
        obtain ⟨k, E, f, hk, rfl, rfl, hb, HOR⟩ := hrel
        by_cases hlt : k < m
        · have hkT : k < T.length := by rw [HTL.out]; exact hlt
          obtain ⟨x, hx⟩ : ∃ x, T[k]? = some x := ⟨_, List.getElem?_eq_getElem hkT⟩
          have HX := Lib.hid hx
          obtain ⟨j0, hj0⟩ := List.mem_iff_getElem?.1 (HPM.out.mem_iff.1 (List.mem_of_getElem? hx))
          have HJ0 := Lib.hid hj0
          obtain ⟨b1, o1, y, rfl, ey, cy⟩ := HSI.out.int hlt
          have hy : y = x.Id := by rw [List.getElem?_map, hx] at ey; exact (Option.some.inj ey).symm
          subst hy
          have HOR0 : Hid (wr.ownsRow w11.heap.size 50 3 (.slice E k f) k ((T.take k ++ inn l x 0).flatMap Cargo.cs)) := by show World.ownsRow _ _ _ _ _ _ _; rw [inn_0, List.append_nil]; exact HOR.out
          have hb0 := hb
          clear hx hj0 ey
          go_wp2_with fail
          go_loopw [22, 24] (fun u v wx => ∃ (j r : Nat) (E : Option Addr) (f : Nat), j ≤ m ∧ v = .int .i64 j ∧ u = .slice E r f ∧ Bl w11 wx ∧ Hid (k + (inn l x j).length = r) ∧ Hid (wx.ownsRow w11.heap.size 50 3 (.slice E r f) r ((T.take k ++ inn l x j).flatMap Cargo.cs))) (fun _ v _ => m - (intOf v).toNat)
          case atStart => exact ⟨0, k, E, f, Nat.zero_le _, rfl, rfl, hb0, (by show _ = _; rw [inn_0]; rfl), HOR0.out⟩
          case round =>
            clear HOR HOR0 hb hb0
            obtain ⟨j, r, E, f, hj, rfl, rfl, hbx, HR, HOR⟩ := hrel
            by_cases hlt2 : j < m
            · obtain ⟨b2, o2, z, rfl, ez, z1, z2, z3⟩ := HSL.out.Cargo hlt2
              have k1 : (0 : Int) ≤ (k : Int) := by omega
              have k2 : (k : Int) < (m : Int) := by omega
              have k3 : (0 : Int) ≤ (j : Int) := by omega
              have k4 : (j : Int) < (m : Int) := by omega
              by_cases hzx : z = x
              · subst hzx
                have HI := Lib.hid (inn_yes HOKE.out ez)
                have hrk : r = k := by have := HR.out; rw [HI.out.1] at this; simpa using this.symm
                subst hrk
                have hzz : (z.Id == z.Id) = true := by simp
                obtain ⟨zi, zl, zc⟩ := z
                simp only at z1 z2 z3 cy hzz
                clear ez
                have z1 := fun V (hV : Bl wr V) => z1 V (hbx.trans hV)
                have z2 := fun V (hV : Bl wr V) => z2 V (hbx.trans hV)
                have z3 := fun V (hV : Bl wr V) => z3 V (hbx.trans hV)
                have cy := fun V (hV : Bl wr V) => cy V (hbx.trans hV)
                go_wp2_with fail
                refine region_bl (by kernel_rfl) (by kernel_rfl) (Bl.refl wr) ?_
                repeat' (first | go_big_quiet_skip | (go_big_quiet_want; go_simp; (try go_bits); first | (refine ⟨_, fun _ _ => rfl, ?_⟩; go_big_quiet_on) | (apply Exists.intro; refine ⟨fun W hW => ?_, ?_⟩; (· go_simp; (try go_bits); rfl); go_big_quiet_on)))
                apply wpQuiet_nil
                intro W hb
                have g1 := z1 _ hb
                have g2 := z2 _ hb
                have g3 := z3 _ hb
                have ho9 := hb.own HOR.out
                have hbw9 := hbx.trans hb
                have hb9 := hbw9.le
                clear z1 z2 z3 cy hb hbx HOR
                obtain ⟨i0, hi0, hz0, hz1, hz2⟩ := info_parts infoCargo
                go_wp2_with (at_builtin; refine wpList_append_one _ rfl _ _ _ rfl _ 50 i0 _ 3 24 Try.underlying28 hi0 hz0 hz1 hz2 rfl (by omega) Cargo.cs_len Cargo.one _ r (T.take r ++ inn l ⟨zi, zl, zc⟩ j) rfl (⟨zi, zl, zc⟩ : Cargo) _ rfl (by first | rfl | simp) _ rfl ho9 hb9 (by unfold maxLen; omega) (by omega) ?_)
                clear hi0 hz0 hz1 hz2
                intro B6 d6 w6' ho6 hg6
                have HOR6 : Hid (w6'.ownsRow w11.heap.size 50 3 (.slice B6 (r + 1) d6) (r + 1) ((T.take r ++ inn l ⟨zi, zl, zc⟩ (j + 1)).flatMap Cargo.cs)) := by
                  show World.ownsRow _ _ _ _ _ _ _
                  rw [HI.out.1] at ho6
                  rw [HI.out.2]
                  simpa using ho6
                have HR6 : Hid (r + (inn l ⟨zi, zl, zc⟩ (j + 1)).length = r + 1) := by show _ = _; rw [HI.out.2]; rfl
                have hb6 := Bl.row hbw9 (Nat.le_refl _) ho9 hg6
                clear ho6 hg6 ho9 hb9 g1 g2 g3 HI hbw9
                go_wp2_with fail
                first | exact ⟨⟨j + 1, r + 1, B6, d6, by omega, by go_num, rfl, hb6, HR6.out, HOR6.out⟩, by simp [intOf]; omega⟩ | (refine ⟨?_, by simp [intOf]; omega⟩; (repeat apply Exists.intro); exact ⟨⟨j + 1, r + 1, B6, d6, by omega, by go_num, rfl, hb6, HR6.out, HOR6.out⟩, rfl⟩)
              · have hid : (z.Id == x.Id) = false := by
                  simp only [beq_eq_false_iff_ne, ne_eq]
                  intro e9
                  have h9 := ids_apart HOKE.out ez HJ0.out e9
                  subst h9
                  rw [HJ0.out] at ez
                  exact hzx (Option.some.inj ez).symm
                have HI := Lib.hid (inn_no ez hzx)
                obtain ⟨zi, zl, zc⟩ := z
                simp only at z1 z2 z3 hid
                clear ez hzx z2 z3
                have z1 := fun V (hV : Bl wr V) => z1 V (hbx.trans hV)
                have cy := fun V (hV : Bl wr V) => cy V (hbx.trans hV)
                go_wp2_with fail
                refine region_bl (by kernel_rfl) (by kernel_rfl) (Bl.refl wr) ?_
                repeat' (first | go_big_quiet_skip | (go_big_quiet_want; go_simp; (try go_bits); first | (refine ⟨_, fun _ _ => rfl, ?_⟩; go_big_quiet_on) | (apply Exists.intro; refine ⟨fun W hW => ?_, ?_⟩; (· go_simp; (try go_bits); rfl); go_big_quiet_on)))
                apply wpQuiet_nil
                intro W hb
                have hbw9 := hbx.trans hb
                have HOR2 := Lib.hid (hb.own HOR.out)
                rw [← HI.out] at HOR2 HR
                clear z1 cy hb hbx HI HOR
                go_wp2_with fail
                first | exact ⟨⟨j + 1, r, E, f, by omega, by go_num, rfl, hbw9, HR.out, HOR2.out⟩, by simp [intOf]; omega⟩ | (refine ⟨?_, by simp [intOf]; omega⟩; (repeat apply Exists.intro); exact ⟨⟨j + 1, r, E, f, by omega, by go_num, rfl, hbw9, HR.out, HOR2.out⟩, rfl⟩)
            · have e : j = m := by omega
              subst e
              have hia := inn_all (l := l) (x := x) (List.mem_of_getElem? HJ0.out) HLL.out
              rw [hia] at HR HOR
              have hrk : r = k + 1 := by have := HR.out; simpa using this.symm
              subst hrk
              rw [← take_one HX.out] at HOR
              clear hia HR
              go_wp2_with fail
              first | exact ⟨⟨k + 1, E, f, by omega, by go_num, rfl, hbx, HOR.out⟩, by simp [intOf]; omega⟩ | (refine ⟨?_, by simp [intOf]; omega⟩; (repeat apply Exists.intro); exact ⟨⟨k + 1, E, f, by omega, by go_num, rfl, hbx, HOR.out⟩, rfl⟩)
        · have e : k = m := by omega
          subst e
          have HSE := Lib.hid (Sl.of_own Cargo.cs_len (by have := HOR.out; rwa [take_all HTL.out] at this) HTL.out (by omega))
          have hce := own_cap HOR.out
          have HBX := Lib.hid (HBW.out.trans hb)
          clear HOR hb
          go_wp2_with fail
          refine (K9.out _ _ _ HSE.out hce).mono ?_
          rintro e w12 ⟨rfl, hbn⟩
          have HBX := Lib.hid (HBX.out.trans hbn)
          clear hbn K9
          go_wp2_with fail
          (first | (go_meet; exact HBX.out) | ((repeat apply Exists.intro); exact ⟨HBX.out, rfl⟩))
  case rest =>
  have HBW := Lib.hid hcut
  clear HSL HSI HSP HLI HLP HT HLE HOKE hcut
  go_wp2_with fail
  refine (drawIsSafeRow_any A n c code _ (HS.out.bl HBW.out) HBY.out).mono ?_
  rintro e w20 ⟨B, m, d, l, C, p, f, cs, rfl, hsl, hm, hmd, hsc, hpf, hbn⟩
  have HSL := Lib.hid hsl
  have HSC := Lib.hid hsc
  have HBW := Lib.hid (HBW.out.trans hbn)
  have K1 := Lib.hid (fun W hl hc => implIsSafeRow_any B C m d p f l cs W hl hc hmd)
  have K2 := Lib.hid (fun W hl hc => implUnsafe_law B m d l C p f cs W hl hc hmd)
  have K3 := Lib.hid (fun W hl hc => specUnsafe_law B m d l C p f cs W hl hc)
  have K4 := Lib.hid (fun W hl hc => specIsSafeRow_law B m d l C p f cs W hl hc)
  obtain ⟨sb, e1, e2⟩ := safe_parts l cs
  rw [e1] at K1 K4
  have HE := Lib.hid e2
  generalize rowOk l cs = ro at *
  (try simp only at K1 K4)
  have hrr : (ro != ro) = false := by simp
  clear e1 e2 hsl hsc hbn
  go_wp2_with fail
  refine (K1.out _ HSL.out HSC.out).mono ?_
  rintro e w21 ⟨rfl, hbn⟩
  have HSL := Lib.hid (HSL.out.bl hbn)
  have HSC := Lib.hid (HSC.out.bl hbn)
  have HBW := Lib.hid (HBW.out.trans hbn)
  clear hbn K1
  go_wp2_with fail
  refine (K2.out _ HSL.out HSC.out).mono ?_
  rintro e w22 ⟨T, hT, D, t, q, gs, rfl, ho, hl, hI, ht, hbn⟩
  have HT := Lib.hid hT
  have HTB := Lib.hid (hI.tb ho hl ht)
  have HTL := Lib.hid (show T.length = t by rw [← hI.len]; exact hl)
  have HSL := Lib.hid (HSL.out.bl hbn)
  have HSC := Lib.hid (HSC.out.bl hbn)
  have HBW := Lib.hid (HBW.out.trans hbn)
  clear hbn K2 hT ho hl hI
  go_wp2_with fail
  refine (K3.out _ HSL.out HSC.out).mono ?_
  rintro e w23 ⟨T2, hT2, D2, t2, q2, gs2, rfl, ho, hl, hI, ht2, hbn⟩
  rw [TabOf.same hT2 HT.out] at hI
  have HSL := Lib.hid (HSL.out.bl hbn)
  have HSC := Lib.hid (HSC.out.bl hbn)
  have HBW := Lib.hid (HBW.out.trans hbn)
  have HRT := Lib.hid (rTable_any D D2 t t2 q q2 _ _ _ _ _ (HTB.out.bl hbn) (hI.tb ho hl ht2))
  simp only [eqB_self] at HRT
  clear hbn K3 hT2 ho hl hI
  go_wp2_with fail
  refine HRT.out.mono ?_
  rintro e w24 ⟨rfl, hbn⟩
  have HSL := Lib.hid (HSL.out.bl hbn)
  have HSC := Lib.hid (HSC.out.bl hbn)
  have HBW := Lib.hid (HBW.out.trans hbn)
  clear hbn HRT
  go_wp2_with fail
  refine (K4.out _ HSL.out HSC.out).mono ?_
  rintro e w25 ⟨rfl, hbn⟩
  have HBW := Lib.hid (HBW.out.trans hbn)
  have HF : Hid (ro = true → sb = decide (t = 0)) := fun h => by rw [HE.out h T HT.out, HTL.out]
  clear hbn K4 HE HT HTB HTL HSL HSC
  cases ro
  · have hss : (sb == sb) = true := by simp
    clear HF
    go_wp2_with fail
    go_ret
    exact ⟨by first | rfl | simp, HBW.out⟩
  · have hs9 := HF.out rfl
    subst hs9
    clear HF
    by_cases h0 : t = 0
    · subst h0
      go_wp2_with fail
      go_ret
      exact ⟨by first | rfl | simp, HBW.out⟩
    · have hz : ((t : Int) == 0) = false := by simp; omega
      have hz2 : decide (t = 0) = false := by simpa using h0
      rw [hz2]
      go_wp2_with fail
      go_ret
      exact ⟨by first | rfl | simp [hz] | (simp; omega), HBW.out⟩
namespace fnRowsDone
set_option maxRecDepth 100000 in
theorem lifted (os : Os) (started : os.Started) (H : Type) (enc : TypeId × Value → H) :
    ReturnsInHanded {} Try.checked os 13 .any (Rows.fnRowsSpec.pre6 enc Try.prog Try.f13 Rows.fnRowsRow.domain false) (Rows.fnRowsSpec.post enc Try.prog Try.f13 false true false false) := by
  refine returnsInHanded_of_change (C := Try.checked) seatOwn started (by kernel_rfl) Try.func13
    (ChangeSpec.witness6 (enc := enc) (C := Try.checked) false ⟨#[], #[.slice none 0 0], []⟩ 8 (by kernel_rfl) (by kernel_rfl) (by kernel_rfl) (by kernel_rfl)) ?_
  intro W base args ds gs before hval0 hW hcnd _
  have hval : ∀ (j : Nat) t v, Try.f13.params[j]? = some t → args[j]? = some v → Value.okWide Try.prog W .any base t v := hval0
  have hW' := hW
  obtain ⟨p, q, hA0, hV, rfl, hfz, hnd⟩ := hW
  have hA : DataW.TrodAll enc Try.prog W 0 (fun _ => true) true Try.f13.params.toList args.toList ds p := hA0
  rw [Try.params13] at hA hval
  obtain ⟨v0, vs0, d0, ds0, p0, q0, hargs, rfl, rfl, h0, r0⟩ := trodAll_cons hA
  obtain ⟨rfl, rfl, rfl⟩ := trodAll_nil r0
  obtain rfl : args = #[v0] := by cases args; simp_all
  obtain ⟨rfl, rfl⟩ := trodVars_none hV
  have k0 := h0
  have lt0 : ∀ x ∈ p0, x.block < W.heap.size := by obtain ⟨m, hm⟩ := k0; exact DataW.trod_lt m _ _ _ hm
  obtain ⟨A0, n0, c0, rfl⟩ := okWide_slice Try.underlying42 (hval 0 42 v0 rfl rfl)
  obtain ⟨l0, s0⟩ := sl_of_bytes Try.underlying42 Try.underlying5 (by kernel_rfl) h0
  clear hA0 hval0
  refine (walk_FnRows A0 n0 c0 l0 W s0).mono fun e W' ⟨he, bel⟩ => ?_
  subst he
  exact ⟨_, rfl, _, _, _, [], _, [], hW', trodAll_mk1 (shut_bool Try.underlying4 _), (trodAll_cons_mk (Below.trod seatLaid (by kernel_rfl) (of_decide_eq_true (by kernel_rfl)) k0 bel lt0) trodAll_mk0), rfl, bel.frame _, fun h => by cases h⟩
theorem over : Rows.fnRowsRow.holds Try.pinned (OpenSpec.ofChange Rows.fnRowsSpec) :=
  OpenClaim.holds_of_wide 13 Try.f13 rfl rfl rfl rfl rfl rfl rfl ⟨rfl, rfl, rfl, rfl, rfl⟩ rfl rfl rfl rfl rfl (by kernel_rfl) Try.func13 (by kernel_rfl)
    (of_decide_eq_true (by kernel_rfl)) (by unfold Func.isWrapper; first | (rw [if_pos (by decide +kernel)]; kernel_rfl) | (rw [if_neg (by decide +kernel)]; exact ⟨rfl, rfl⟩))
    (fun os started H enc _ => lifted os started H enc)
theorem proved : Rows.FnRowsSaid := over
#print axioms proved
end fnRowsDone

end Go.Proofs.Ytkeaobjcfkmjmaa
