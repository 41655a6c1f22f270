/- TopMachines: for every input the call returns true. No condition. -/
import Derived.Test.YtpbflkbelhlogaaMacS
import Derived.Test.YtpbflkbelhlogaaMacX
import Derived.Test.YtpbflkbelhlogaaMacG
import Derived.Test.YtpbflkbelhlogaaMacChk
import Derived.Test.YtpbflkbelhlogaaMacO
import Derived.Test.YtpbflkbelhlogaaCompP
import Derived.Test.YtpbflkbelhlogaaJoinedRowTopMachines
import Derived.Test.YtpbflkbelhlogaaTopMP
import Derived.Deep.CutRange
import Derived.Deep.CutBlock
namespace Go.Proofs.Ytpbflkbelhlogaa
open Go.RowKit Go.Shelf
set_option linter.unusedVariables false
theorem RMac2.openT {m : Mac} {k : Int} {w w' : World} {e : Ending} (h : RMac2 m k w e w') : ∃ a1 c1 a2 c2, e = .returned (.tuple #[.agg #[.int .i64 m.s, .slice a1 m.a.length c1, .slice a2 m.e.length c2], .int .i64 k]) ∧ MacR w' (.slice a1 m.a.length c1) (.slice a2 m.e.length c2) m ∧ Ext w w' := by
  obtain ⟨av, ev, rfl, hM, hx⟩ := h
  obtain ⟨a1, c1, rfl, _⟩ := hM.a.open_
  obtain ⟨a2, c2, rfl, _⟩ := hM.e.open_
  exact ⟨a1, c1, a2, c2, rfl, hM, hx⟩
theorem ROMac2.openT {m : Mac} {k : Int} {w w' : World} {e : Ending} (h : ROMac2 m k w e w') : ∃ a1 c1 a2 c2, e = .returned (.tuple #[.agg #[.int .i64 m.s, .slice a1 m.a.length c1, .slice a2 m.e.length c2], .int .i64 k]) ∧ MacR w' (.slice a1 m.a.length c1) (.slice a2 m.e.length c2) m ∧ Ext w w' := by
  obtain ⟨av, ev, h1, h2, h3⟩ := h
  exact RMac2.openT ⟨av, ev, h1, h2.mac, h3⟩
theorem sameInts_t (va vb : Value) (a b : List Int) (w : World) (h : a = b) (ha : Ints w va a) (hb : Ints w vb b) : Calls Try.prog 43 #[va, vb] w (RV (.bool true) w) := by
  subst h
  have := sameInts_c va vb a a w ha hb
  rw [show sameIntsB a a = true by rw [sameIntsB_iff]; simp] at this
  refine this.mono ?_
  rintro e w' ⟨rfl, n, rfl⟩
  exact ⟨rfl, Ext.drewN _ _⟩
set_option maxHeartbeats 2000000 in
set_option maxRecDepth 100000 in
theorem topMachines_c (av ev : Value) (m : Mac) (bv fv : Value) (n : Mac) (uv : Value) (u : List Int) (w : World) (h : MacR w av ev m) (k : MacR w bv fv n) (hu : Ints w uv u) :
    Calls Try.prog 12 #[.agg #[.int .i64 m.s, av, ev], .agg #[.int .i64 n.s, bv, fv], uv] w (RV (.bool true) w) := by
  obtain ⟨aa, ca, rfl, hla, hma, HA⟩ := h.a.open_
  obtain ⟨ae, ce, rfl, hle, hme, HE⟩ := h.e.open_
  obtain ⟨ba, da, rfl, hlb, hmb, HB⟩ := k.a.open_
  obtain ⟨be, de, rfl, hlf, hmf, HF⟩ := k.e.open_
  obtain ⟨au, cu, rfl, _, _, _⟩ := hu.open_
  obtain ⟨wA1, hwA1⟩ : ∃ W, W = w.alloc (.cells #[.int .i64 m.s, .slice aa m.a.length ca, .slice ae m.e.length ce] 25) := ⟨_, rfl⟩
  obtain ⟨wA, hwA⟩ : ∃ W, W = wA1.alloc (.cells #[.int .i64 n.s, .slice ba n.a.length da, .slice be n.e.length de] 25) := ⟨_, rfl⟩
  have z1 : wA1.heap.size = w.heap.size + 1 := by rw [hwA1]; simp
  have x1_ : Ext w wA1 := by rw [hwA1]; exact Ext.alloc _ _
  have x2_ : Ext wA1 wA := by rw [hwA]; exact Ext.alloc _ _
  have hE0 : Ext w wA := x1_.trans x2_
  have hb1 : Blk wA w.heap.size 25 _ := (show Blk wA1 w.heap.size 25 [.int .i64 m.s, .slice aa m.a.length ca, .slice ae m.e.length ce] by rw [hwA1]; exact Blk.alloc w _ _).ext x2_
  have hb2 : Blk wA (w.heap.size + 1) 25 [.int .i64 n.s, .slice ba n.a.length da, .slice be n.e.length de] := by rw [hwA, ← z1]; exact Blk.alloc wA1 _ _
  have k0 := fun W (hW : Ext wA W) => hW.keep (hb1.cell (i := 0) rfl)
  have k1 := fun W (hW : Ext wA W) => hW.keep (hb1.cell (i := 1) rfl)
  have k2 := fun W (hW : Ext wA W) => hW.keep (hb1.cell (i := 2) rfl)
  have l0 := fun W (hW : Ext wA W) => hW.keep (hb2.cell (i := 0) rfl)
  have l1 := fun W (hW : Ext wA W) => hW.keep (hb2.cell (i := 1) rfl)
  have l2 := fun W (hW : Ext wA W) => hW.keep (hb2.cell (i := 2) rfl)
  have H0 := Ext.refl wA
  have HR := Lib.hid (h.ext hE0)
  have HRN := Lib.hid (k.ext hE0)
  have HIU := Lib.hid (hu.ext hE0)
  have HLM0 := Lib.hid (fun W (hW : Ext wA W) => (by have hxL := Ext.alloc W (.cells #[.slice au u.length cu] 23); exact Long_c _ _ _ m [u] _ (HR.out.ext (hW.trans hxL)) (rows_new W [.slice au u.length cu] [u] (AllInts.cons (HIU.out.ext hW) (AllInts.nil _)) (by simp)) : Calls Try.prog 19 #[.agg #[.int .i64 m.s, .slice aa m.a.length ca, .slice ae m.e.length ce], .slice (some ⟨W.heap.size, 0, none⟩) 1 1] (W.alloc (.cells #[.slice au u.length cu] 23)) (RV (.bool (longM m [u])) (W.alloc (.cells #[.slice au u.length cu] 23)))))
  have HLN := Lib.hid (fun W (hW : Ext wA W) => Long_c _ _ _ n [] W (HRN.out.ext hW) (Rows.nil W))
  have HW := Lib.hid (show wA = (w.alloc (.cells #[.int .i64 m.s, .slice aa m.a.length ca, .slice ae m.e.length ce] 25)).alloc (.cells #[.int .i64 n.s, .slice ba n.a.length da, .slice be n.e.length de] 25) by rw [hwA, hwA1])
  clear hwA hwA1 z1 x1_ x2_ hb1 hb2 h k hu
  generalize longM m [u] = b1 at *
  generalize longM n [] = b2 at *
  have HP2 := Lib.hid (Plain_c 2 wA)
  have hp2 := plain2_len
  rw [plain2_K] at HP2
  generalize plainM 2 = P2 at *
  go_enter Try.func12, Try.ntmps12
  go_wp2_with fail
  rw [← HW.out]
  refine HP2.out.mono ?_; intro e w3 hr3
  obtain ⟨a3, c3, b3, d3, rfl, hM3, hx3⟩ := hr3.openT
  clear hr3 HP2 hM3
  rw [hp2]
  obtain ⟨w4, hw4⟩ : ∃ w4, w4 = w3.alloc (.cells #[.int .i64 P2.s, .slice a3 2 c3, .slice b3 P2.e.length d3] 25) := ⟨_, rfl⟩
  have hY4 : Ext w3 w4 := by rw [hw4]; exact Ext.alloc _ _
  have p0 : ∀ W, Ext w4 W → W.cell? ⟨w3.heap.size, 0, none⟩ = some (.int .i64 P2.s) := by rw [hw4]; exact kept_alloc w3 _ _ rfl
  have p1 : ∀ W, Ext w4 W → W.cell? ⟨w3.heap.size, 1, none⟩ = some (.slice a3 2 c3) := by rw [hw4]; exact kept_alloc w3 _ _ rfl
  have p2 : ∀ W, Ext w4 W → W.cell? ⟨w3.heap.size, 2, none⟩ = some (.slice b3 P2.e.length d3) := by rw [hw4]; exact kept_alloc w3 _ _ rfl

  clear hp2
  have hX4 : Ext wA w4 := hx3.trans hY4
  have H44 : Ext w4 w4 := Ext.refl _
  have hxL := Ext.alloc w4 (.cells #[.slice au u.length cu] 23)
  have HLM := Lib.hid (HLM0.out w4 hX4)
  have HW4 := Lib.hid hw4; clear hw4 HLM0
  cases b1
  · cases b2
    · go_upto_region 2 with fail
      rw [← HW4.out]
      go_wp2_with fail
      refine HLM.out.mono ?_; rintro e w5 ⟨rfl, hx5⟩
      have hX5 := hX4.trans (hxL.trans hx5)
      clear HLM p0 p1 p2
      go_wp2_with fail
      refine (HLN.out w5 hX5).mono ?_; rintro e w6 ⟨rfl, hx6⟩
      have hX6 := hX5.trans hx6
      clear HLN hX5 hX4
      by_cases hf : checkK m [u] = 0
      · have hv := checkK_v hf
        have hmac := validM_mac hv
        have HIM := Lib.hid (fun W (hW : Ext wA W) => Images_c _ _ _ m u W (HR.out.ext hW) (HIU.out.ext hW))
        have HAC := Lib.hid (fun W (hW : Ext wA W) => Accepts_c _ _ _ m u W (HR.out.ext hW) (HIU.out.ext hW))
        have HFU := Lib.hid (fun W (hW : Ext wA W) => IsFunction_c _ _ m W (HR.out.ext hW))
        have HTW := Lib.hid (fun W (hW : Ext wA W) => (Two_c _ _ m W (HR.out.ext hW)).mono (fun e w' h => (show ∃ v1 v2 v3, e = .returned (.tuple #[v1, v2, v3, .bool (twoB m), .int .i64 (validM m)]) ∧ Ext W w' ∧ Ints w' v1 (twoL m Lst.i) ∧ Ints w' v2 (twoL m Lst.u) ∧ Ints w' v3 (twoL m Lst.v) from h)))
        have HTU := Lib.hid (fun W (hW : Ext wA W) => Turn_c _ _ m W (HR.out.ext hW) (by have := hmac.a; omega) (by have := end_bd hmac; omega))
        have HTR := Lib.hid (fun W (hW : Ext wA W) => Trim_c _ _ m W (HR.out.ext hW))
        have HCH := Lib.hid (fun W (hW : Ext wA W) (v1 v2 v3 : Value) (h1 : Ints W v1 (twoL m Lst.i)) (h2 : Ints W v2 (twoL m Lst.u)) (h3 : Ints W v3 (twoL m Lst.v)) => CheckTwo_c _ _ v1 v2 v3 m _ _ _ W (HR.out.ext hW) h1 h2 h3 (by have := hmac.a; omega))
        have HTC : Hid (twoB m = true → checkTwoK m (twoL m Lst.i) (twoL m Lst.u) (twoL m Lst.v) = 0) := Lib.hid (two_checks hv)
        have HIMG : Hid (imagesK m u = 0 → ∀ v ∈ imagesL m u, (relatesB m u v = true ∧ checkK m [u, v] = 0) ∧ (relatesB (turnX m) v u = true ∧ checkK (turnX m) [v, u] = 0) ∧ (relatesB (trimM m) u v = true ∧ checkK (trimM m) [u, v] = 0) ∧ ∀ R, goRun m R u v 0 → runK m R = 0 ∧ runI m R = u ∧ runO m R = v) := Lib.hid (fun hi v hv => have h := top_img hi hv; ⟨⟨h.r1, h.c1⟩, ⟨h.r2, h.c2⟩, ⟨h.r3, h.c3⟩, h.run⟩)
        have HFL : Hid (twoB m = false → imagesK m u = 0 → (imagesL m u).length ≤ 1) := Lib.hid (fun h hi => fun_len (by rw [two_fun hv, h]; rfl) hi)
        have HAL : Hid (imagesK m u = 0 → acceptsB m u = decide (0 < (imagesL m u).length)) := Lib.hid (fun hi => accepts_len hi)
        have HRD : Hid (acceptsB m u = true → composeK m (turnX m) = 0 → relatesB (composeM m (turnX m)) u u = true ∧ checkK (composeM m (turnX m)) [u, u] = 0) := Lib.hid (fun ha hc => top_round hf ha hc)
        have HFD : Hid (composeK m n = 0 → imagesK (composeM m n) u = 0 → imagesK m u = 0 → (∀ w ∈ imagesL m u, ∀ v ∈ imagesL (composeM m n) u, checkK n [w, v] = 0) ∧ (∀ v ∈ imagesL (composeM m n) u, ∃ w ∈ imagesL m u, relatesB n w v = true)) := Lib.hid (fun h h1 h2 => ⟨(feeds h h1 h2).check, (feeds h h1 h2).some_⟩)
        have HCN : Hid (composeK m n ≠ 0 → composeM m n = ⟨0, [], []⟩) := Lib.hid (fun h => compose_none h)
        rw [hf] at HAC
        rw [two_fun hv, hv] at HFU
        rw [hv] at HTW HTU HTR
        clear hf hv hmac
        generalize twoB m = tb at *
        generalize turnX m = TX at *
        generalize trimM m = TM at *
        generalize acceptsB m u = ab at *
        generalize hik : imagesK m u = ik at *
        generalize hL : imagesL m u = L at *
        have HIK := Lib.hid hik; clear hik
        have HLL := Lib.hid hL; clear hL
        go_wp2_with fail
        refine (HIM.out w6 hX6).mono ?_; rintro e w7 ⟨v7, rfl, hv7, hx7⟩
        have hv7' : Rows w7 v7 L := hv7
        obtain ⟨a7, c7, rfl, hcc7, hcm7, HA7⟩ := Rows.open_ hv7'
        have HV7 := Lib.hid hv7'; clear hv7 hv7'
        have hX7 := hX6.trans hx7
        go_wp2_with fail
        refine (HAC.out w7 hX7).mono ?_; rintro e w8 ⟨rfl, hx8⟩
        have hX8 := hX7.trans hx8
        go_wp2_with fail
        refine (HFU.out w8 hX8).mono ?_; rintro e w9 ⟨rfl, hx9⟩
        have hX9 := hX8.trans hx9
        go_wp2_with fail
        refine (HTW.out w9 hX9).mono ?_; rintro e w10 ⟨v1, v2, v3, rfl, hx10, hi1, hi2, hi3⟩
        have hX10 := hX9.trans hx10
        have HI1 := Lib.hid hi1
        have HI2 := Lib.hid hi2
        have HI3 := Lib.hid hi3
        obtain ⟨b1, d1, rfl, _⟩ := hi1.open_
        obtain ⟨b2, d2, rfl, _⟩ := hi2.open_
        obtain ⟨b3', d3', rfl, _⟩ := hi3.open_
        clear hi1 hi2 hi3
        go_wp2_with fail
        refine (HTU.out w10 hX10).mono ?_; intro e w11 hr11
        obtain ⟨a11, c11, b11, d11, rfl, hM11, hx11⟩ := hr11.openT
        clear hr11
        obtain ⟨w12, hw12⟩ : ∃ w12, w12 = w11.alloc (.cells #[.int .i64 TX.s, .slice a11 TX.a.length c11, .slice b11 TX.e.length d11] 25) := ⟨_, rfl⟩
        have hY12 : Ext w11 w12 := by rw [hw12]; exact Ext.alloc _ _
        have q0 : ∀ W, Ext w12 W → W.cell? ⟨w11.heap.size, 0, none⟩ = some (.int .i64 TX.s) := by rw [hw12]; exact kept_alloc w11 _ _ rfl
        have q1 : ∀ W, Ext w12 W → W.cell? ⟨w11.heap.size, 1, none⟩ = some (.slice a11 TX.a.length c11) := by rw [hw12]; exact kept_alloc w11 _ _ rfl
        have q2 : ∀ W, Ext w12 W → W.cell? ⟨w11.heap.size, 2, none⟩ = some (.slice b11 TX.e.length d11) := by rw [hw12]; exact kept_alloc w11 _ _ rfl
        have hX12 := (hX10.trans hx11).trans hY12
        have H12 : Ext w12 w12 := Ext.refl _
        have HM12 := Lib.hid (hM11.ext hY12)
        have HX12 := Lib.hid (hx11.trans hY12)
        have HW12 := Lib.hid hw12; clear hw12 hM11
        go_upto_region 13 with fail
        rw [← HW12.out]
        go_wp2_with fail
        refine (HTR.out w12 hX12).mono ?_; intro e w13 hr13
        obtain ⟨a13, c13, b13, d13, rfl, hM13, hx13⟩ := hr13.openT
        clear hr13
        obtain ⟨w14, hw14⟩ : ∃ w14, w14 = w13.alloc (.cells #[.int .i64 TM.s, .slice a13 TM.a.length c13, .slice b13 TM.e.length d13] 25) := ⟨_, rfl⟩
        have hY14 : Ext w13 w14 := by rw [hw14]; exact Ext.alloc _ _
        have r0 : ∀ W, Ext w14 W → W.cell? ⟨w13.heap.size, 0, none⟩ = some (.int .i64 TM.s) := by rw [hw14]; exact kept_alloc w13 _ _ rfl
        have r1 : ∀ W, Ext w14 W → W.cell? ⟨w13.heap.size, 1, none⟩ = some (.slice a13 TM.a.length c13) := by rw [hw14]; exact kept_alloc w13 _ _ rfl
        have r2 : ∀ W, Ext w14 W → W.cell? ⟨w13.heap.size, 2, none⟩ = some (.slice b13 TM.e.length d13) := by rw [hw14]; exact kept_alloc w13 _ _ rfl
        have hZ14 := hx13.trans hY14
        have hX14 := hX12.trans hZ14
        have H14 : Ext w14 w14 := Ext.refl _
        have HM14 := Lib.hid (hM13.ext hY14)
        have HXT := Lib.hid (HX12.out.trans hZ14)
        have HX7 : Hid (Ext w7 w14) := Lib.hid (hx8.trans (hx9.trans (hx10.trans HXT.out)))
        have HZ14 := Lib.hid hZ14
        have HW14 := Lib.hid hw14; clear hw14 hM13 HIM HAC HFU HTW HTU HTR hx7 hx8 hx9 hx10 hx11 hx13 hX7 hX8 hX9 hX10
        go_upto_region 14 with fail
        rw [← HW14.out]
        go_cut [139] from 110 to 139 (fun s139 wx => s139 = .bool false ∧ Ext w14 wx)
        case first =>
          cases tb
          · go_wp2_with fail
            go_meet
            case rel => exact ⟨rfl, Ext.refl _⟩
          · have HC2 := Lib.hid (HCH.out w14 hX14 _ _ _ (HI1.out.ext HXT.out) (HI2.out.ext HXT.out) (HI3.out.ext HXT.out))
            rw [HTC.out rfl] at HC2
            go_wp2_with fail
            refine HC2.out.mono ?_; rintro e w15 ⟨rfl, hx15⟩
            go_wp2_with fail
            go_meet
            case rel => exact ⟨rfl, hx15⟩
        case rest =>
          obtain ⟨rfl, hxc⟩ := hcut
          obtain ⟨wP, rfl⟩ : ∃ W : World, W = wc := ⟨_, rfl⟩
          have hXc := hX14.trans hxc
          have hZc := HZ14.out.trans hxc
          clear HCH HI1 HI2 HI3 HTC
          go_upto_if 141 with fail
          go_cut [] from 142 to 243 (fun wx => Ext wP wx)
          case first =>
            by_cases hk0 : ik = 0
            · subst hk0
              have hkk : ((0 : Int) == 0) = true := by rfl
              have HAL2 := Lib.hid (HAL.out (by first | exact rfl | exact trivial))
              have HIM2 := Lib.hid (HIMG.out (by first | exact rfl | exact trivial))
              have HFL2 : Hid (tb = false → L.length ≤ 1) := Lib.hid (fun h => HFL.out h (by first | exact rfl | exact trivial))
              clear HAL HIMG HFL
              go_upto_region 17 with fail
              go_cut [154] from 142 to 154 (fun s154 wx => s154 = .bool false ∧ wP = wx)
              case first =>
                cases ab
                · have h0 : ¬ 0 < L.length := of_decide_eq_false HAL2.out.symm
                  obtain rfl : L = [] := List.eq_nil_of_length_eq_zero (Nat.eq_zero_of_not_pos h0)
                  clear h0
                  cases tb
                  · go_wp2_with fail
                    go_meet
                    case rel => exact ⟨rfl, rfl⟩
                  · go_wp2_with fail
                    go_meet
                    case rel => exact ⟨rfl, rfl⟩
                · have h0 : 0 < L.length := of_decide_eq_true HAL2.out.symm
                  have hI : (0 : Int) < (L.length : Int) := by omega
                  have hI2 : (L.length : Int) > 0 := hI
                  have hdd2 : (true != decide ((0 : Int) < (L.length : Int))) = false := by rw [decide_eq_true hI]; rfl
                  have hdd3 : (true != decide ((L.length : Int) > 0)) = false := by rw [decide_eq_true hI2]; rfl
                  cases tb
                  · have hL1 := HFL2.out rfl
                    have hJ : ¬ (1 : Int) < (L.length : Int) := by omega
                    have hd1 : decide ((L.length : Int) > 1) = false := by simp; omega
                    have hd2 : decide ((1 : Int) < (L.length : Int)) = false := by simp; omega
                    go_wp2_with fail
                    all_goals first
                      | (exfalso; omega)
                      | (exfalso; simp_all; done)
                      | (go_meet; case rel => exact ⟨rfl, rfl⟩)
                  · go_wp2_with fail
                    all_goals first
                      | (exfalso; omega)
                      | (exfalso; simp_all; done)
                      | (go_meet; case rel => exact ⟨rfl, rfl⟩)
              case rest =>
                obtain ⟨rfl, rfl⟩ := hcut
                go_wp2_with fail
                go_loopg [23] L.length (fun z i wr => ∃ k : Nat, k ≤ L.length ∧ L.length ≤ k + z ∧ i = .int .i64 k ∧ Ext wP wr)
                case atStart => exact ⟨0, by omega, by omega, rfl, Ext.refl _⟩
                case round =>
                  obtain ⟨k, hk, hkz, rfl, hEr⟩ := hrel
                  have hXr := hXc.trans hEr
                  by_cases hlt : k < L.length
                  · have hkI : (k : Int) < (L.length : Int) := by omega
                    by_cases h12 : k < 12
                    · have hkJ : (k : Int) < 12 := by omega
                      obtain ⟨b7, o7, rfl, u7, hc7, hi7⟩ := HA7.out k hlt
                      have hm : L[k]?.getD [] ∈ L := by rw [List.getElem?_eq_getElem hlt]; exact List.getElem_mem hlt
                      have HT := Lib.hid (HIM2.out _ hm)
                      have HIV := Lib.hid (hi7.ext (HX7.out.trans (hxc.trans hEr)))
                      have hcr := (HX7.out.trans (hxc.trans hEr)).keep hc7
                      obtain ⟨av7, cv7, rfl, _⟩ := hi7.open_
                      clear hi7 hc7 hm
                      generalize L[k]?.getD [] = v at *
                      have HRN1 := Lib.hid (fun W (hW : Ext wr W) => (Run_c _ _ _ _ m u v W (HR.out.ext (hXr.trans hW)) (HIU.out.ext (hXr.trans hW)) (HIV.out.ext hW)).mono (fun e w' h => (show Ext W w' ∧ ∃ (rv : Value) (R : List Int), e = .returned (.tuple #[rv, .bool (relatesB m u v), .int .i64 (checkK m [u, v])]) ∧ Ints w' rv R ∧ (relatesB m u v = false → R = []) ∧ (relatesB m u v = true → goRun m R u v 0) from h)))
                      rw [HT.out.1.1, HT.out.1.2] at HRN1
                      have HRL1 := Lib.hid (fun W (hW : Ext wr W) => Relates_c _ _ _ _ TX v u W (HM12.out.ext (HZ14.out.trans (hxc.trans (hEr.trans hW)))) (HIV.out.ext hW) (HIU.out.ext (hXr.trans hW)))
                      rw [HT.out.2.1.1, HT.out.2.1.2] at HRL1
                      have HRL2 := Lib.hid (fun W (hW : Ext wr W) => Relates_c _ _ _ _ TM u v W (HM14.out.ext (hxc.trans (hEr.trans hW))) (HIU.out.ext (hXr.trans hW)) (HIV.out.ext hW))
                      rw [HT.out.2.2.1.1, HT.out.2.2.1.2] at HRL2
                      go_wp2_with fail
                      refine wp_region_peek (Ext wr) (fun _ => True) [] [.look 0, .look 1, .look 2, .look 3, .look 4, .look 5, .go 6, .look 7, .look 8, .look 9, .look 10, .look 11, .look 12, .look 13] (by kernel_rfl) (by kernel_rfl) (by intro c a d v w h; cases d <;> exact h) ?_
                      have hd : Ext wr { wr with drawn := wr.drawn + 1 } := drawn_ext wr
                      have hs : ∀ s : InC (Ext wr), Ext wA s.w := fun s => hXr.trans s.h
                      have q0 := fun s : InC (Ext wr) => s.h.keep hcr
                      generalize { wr with drawn := wr.drawn + 1 } = W0 at *
                      iterate 6 (refine wpPeek_look rfl ‹_› (fun K hK => ?_); go_simp; first | (refine hK _ ?_; clear hK K) | (refine ⟨_, fun _ => rfl, hK _ ?_⟩; clear hK K))
                      refine wpPeek_go rfl rfl (fun K hK => ?_)
                      clear hs q0
                      go_wp2_with fail
                      refine (HRN1.out W0 hd).mono ?_; rintro e W1 ⟨hx1, rv, R, rfl, hiR, _, hyes⟩
                      have HRR := Lib.hid (HT.out.2.2.2 R (hyes (by first | exact rfl | exact trivial)))
                      have HIR := Lib.hid hiR
                      obtain ⟨ar, cr, rfl, _⟩ := hiR.open_
                      clear hiR hyes HRN1
                      go_wp2_with fail
                      refine ⟨KeepE.of (fun h => h.trans hx1) (fun _ => trivial), ?_⟩
                      replace hd := hd.trans hx1
                      have hs : ∀ s : InC (Ext wr), Ext wA s.w := fun s => hXr.trans s.h
                      iterate 7 (refine wpPeek_look rfl ‹_› (fun K hK => ?_); go_simp; first | (refine hK _ ?_; clear hK K) | (refine ⟨_, fun _ => rfl, hK _ ?_⟩; clear hK K))
                      clear hs
                      refine wpPeek_nil ?_
                      have hX1 := hXr.trans hd
                      have HCR := Lib.hid ((CheckRun_c _ _ _ m R W1 (HR.out.ext hX1) HIR.out).mono (fun e w' h => (show ∃ v1 v2, e = .returned (.tuple #[v1, v2, .int .i64 (runK m R)]) ∧ Ints w' v1 (runI m R) ∧ Ints w' v2 (runO m R) ∧ Ext W1 w' from h)))
                      rw [HRR.out.1, HRR.out.2.1, HRR.out.2.2] at HCR
                      go_wp2_with fail
                      refine HCR.out.mono ?_; rintro e W2 ⟨x1, x2, rfl, hi8, hi9, hx2⟩
                      have HI8 := Lib.hid hi8
                      have HI9 := Lib.hid hi9
                      obtain ⟨a8, c8, rfl, _⟩ := hi8.open_
                      obtain ⟨a9, c9, rfl, _⟩ := hi9.open_
                      clear hi8 hi9 HCR HRR HIR
                      replace hd := hd.trans hx2
                      have hX2 := hXr.trans hd
                      clear hX1
                      go_wp2_with fail
                      refine wp_region_peek (Ext W2) (fun _ => True) [] [.look 0, .look 1, .look 2, .look 3, .look 4, .look 5, .go 6, .look 7, .look 8, .look 9, .look 10, .look 11] (by kernel_rfl) (by kernel_rfl) (by intro c a d v w h; cases d <;> exact h) ?_
                      have hd2 : Ext W2 { W2 with drawn := W2.drawn + 1 } := drawn_ext W2
                      have hs : ∀ s : InC (Ext W2), Ext wA s.w := fun s => hX2.trans s.h
                      have hs2 : ∀ s : InC (Ext W2), Ext w12 s.w := fun s => hZc.trans (hEr.trans (hd.trans s.h))
                      have q0 := fun s : InC (Ext W2) => s.h.keep (hd.keep hcr)
                      generalize { W2 with drawn := W2.drawn + 1 } = W3 at *
                      iterate 6 (refine wpPeek_look rfl ‹_› (fun K hK => ?_); go_simp; first | (refine hK _ ?_; clear hK K) | (refine ⟨_, fun _ => rfl, hK _ ?_⟩; clear hK K))
                      refine wpPeek_go rfl rfl (fun K hK => ?_)
                      clear hs hs2 q0
                      go_wp2_with fail
                      refine (HRL1.out W3 (hd.trans hd2)).mono ?_; rintro e W4 ⟨rfl, hx4⟩
                      go_wp2_with fail
                      refine ⟨KeepE.of (fun h => h.trans hx4) (fun _ => trivial), ?_⟩
                      replace hd2 := hd2.trans hx4
                      have hs : ∀ s : InC (Ext W2), Ext wA s.w := fun s => hX2.trans s.h
                      iterate 5 (refine wpPeek_look rfl ‹_› (fun K hK => ?_); go_simp; first | (refine hK _ ?_; clear hK K) | (refine ⟨_, fun _ => rfl, hK _ ?_⟩; clear hK K))
                      clear hs
                      refine wpPeek_nil ?_
                      have HE24 := Lib.hid hd2
                      have hd4 := hd.trans hd2
                      have hX4' := hXr.trans hd4
                      clear hd2 HRL1 hX2
                      go_wp2_with fail
                      refine wp_region_peek (Ext W4) (fun _ => True) [] [.look 0, .look 1, .look 2, .look 3, .look 4, .look 5, .go 6, .look 7, .look 8, .look 9, .look 10, .look 11] (by kernel_rfl) (by kernel_rfl) (by intro c a d v w h; cases d <;> exact h) ?_
                      have hd2 : Ext W4 { W4 with drawn := W4.drawn + 1 } := drawn_ext W4
                      have hs : ∀ s : InC (Ext W4), Ext wA s.w := fun s => hX4'.trans s.h
                      have hs2 : ∀ s : InC (Ext W4), Ext w14 s.w := fun s => hxc.trans (hEr.trans (hd4.trans s.h))
                      have q0 := fun s : InC (Ext W4) => s.h.keep (hd4.keep hcr)
                      generalize { W4 with drawn := W4.drawn + 1 } = W5 at *
                      iterate 6 (refine wpPeek_look rfl ‹_› (fun K hK => ?_); go_simp; first | (refine hK _ ?_; clear hK K) | (refine ⟨_, fun _ => rfl, hK _ ?_⟩; clear hK K))
                      refine wpPeek_go rfl rfl (fun K hK => ?_)
                      clear hs hs2 q0
                      go_wp2_with fail
                      refine (HRL2.out W5 (hd4.trans hd2)).mono ?_; rintro e W6 ⟨rfl, hx6'⟩
                      go_wp2_with fail
                      refine ⟨KeepE.of (fun h => h.trans hx6') (fun _ => trivial), ?_⟩
                      replace hd2 := hd2.trans hx6'
                      have hs : ∀ s : InC (Ext W4), Ext wA s.w := fun s => hX4'.trans s.h
                      iterate 5 (refine wpPeek_look rfl ‹_› (fun K hK => ?_); go_simp; first | (refine hK _ ?_; clear hK K) | (refine ⟨_, fun _ => rfl, hK _ ?_⟩; clear hK K))
                      clear hs
                      refine wpPeek_nil ?_
                      have hd6 := hd4.trans hd2
                      have HE26 := Lib.hid (HE24.out.trans hd2)
                      have HS1 := Lib.hid (sameInts_t _ _ u u W6 rfl (HI8.out.ext HE26.out) (HIU.out.ext (hXr.trans hd6)))
                      have hcr6 := hd6.keep hcr
                      have HS2 := Lib.hid (fun W (hW : Ext W6 W) => sameInts_t _ _ v v W rfl (HI9.out.ext (HE26.out.trans hW)) (HIV.out.ext (hd6.trans hW)))
                      clear HRL2 hX4' hd2
                      go_wp2_with fail
                      refine HS1.out.mono ?_; rintro e W7 ⟨rfl, hx7⟩
                      have hcr7 := hx7.keep hcr6
                      clear hcr6 hcr
                      go_wp2_with fail
                      refine (HS2.out W7 hx7).mono ?_; rintro e W8 ⟨rfl, hx8⟩
                      have hE8 := hEr.trans (hd6.trans (hx7.trans hx8))
                      go_wp2_with fail
                      go_roundg (gk-1)
                      case measure => omega
                      case rel => exact ⟨k+1, by omega, by omega, by go_num, hE8⟩
                    · have hkJ : ¬ (k : Int) < 12 := by omega
                      have hkD : decide ((k : Int) < 12) = false := by simpa using hkJ
                      go_wp2_with fail
                      go_meet
                      case rel => exact hEr
                  · have hkI : ¬ (k : Int) < (L.length : Int) := by omega
                    go_wp2_with fail
                    go_meet
                    case rel => exact hEr
            · have hkk : (ik == 0) = false := by simp [hk0]
              go_wp2_with fail
              go_meet
              case rel => exact Ext.refl _
          case rest =>
            obtain ⟨w16, rfl⟩ : ∃ W : World, W = wc := ⟨_, rfl⟩
            have hxc16 := hcut
            have hX16 := hXc.trans hxc16
            have hZ16 := hZc.trans hxc16
            have HC1 := Lib.hid (Compose_c _ _ _ _ m TX w16 (HR.out.ext hX16) (HM12.out.ext hZ16))
            generalize composeM m TX = CR at *
            generalize composeK m TX = kr at *
            go_wp2_with fail
            refine HC1.out.mono ?_; intro e w17 hr17
            obtain ⟨a17, c17, b17, d17, rfl, hM17, hx17⟩ := hr17.openT
            clear hr17 HC1
            obtain ⟨w18, hw18⟩ : ∃ w18, w18 = w17.alloc (.cells #[.int .i64 CR.s, .slice a17 CR.a.length c17, .slice b17 CR.e.length d17] 25) := ⟨_, rfl⟩
            have hY18 : Ext w17 w18 := by rw [hw18]; exact Ext.alloc _ _
            have s0 : ∀ W, Ext w18 W → W.cell? ⟨w17.heap.size, 0, none⟩ = some (.int .i64 CR.s) := by rw [hw18]; exact kept_alloc w17 _ _ rfl
            have s1 : ∀ W, Ext w18 W → W.cell? ⟨w17.heap.size, 1, none⟩ = some (.slice a17 CR.a.length c17) := by rw [hw18]; exact kept_alloc w17 _ _ rfl
            have s2 : ∀ W, Ext w18 W → W.cell? ⟨w17.heap.size, 2, none⟩ = some (.slice b17 CR.e.length d17) := by rw [hw18]; exact kept_alloc w17 _ _ rfl
            have hX18 := (hX16.trans hx17).trans hY18
            have H18 : Ext w18 w18 := Ext.refl _
            have HM18 := Lib.hid (hM17.ext hY18)
            have HX18 := Lib.hid (hx17.trans hY18)
            have HW18 := Lib.hid hw18; clear hw18 hM17
            go_upto_region 29 with fail
            rw [← HW18.out]
            go_cut [254] from 250 to 254 (fun s254 wx => s254 = .bool (decide (kr = 0) && ab) ∧ w18 = wx)
            case first =>
              by_cases hkr : kr = 0
              · subst hkr
                go_wp2_with fail
                go_meet
                case rel => exact ⟨rfl, rfl⟩
              · have hkk : (kr == 0) = false := by simp [hkr]
                go_wp2_with fail
                go_meet
                case rel => exact ⟨by simp [hkr], rfl⟩
            case rest =>
              obtain ⟨rfl, rfl⟩ := hcut
              have HRD2 : Hid ((decide (kr = 0) && ab) = true → relatesB CR u u = true ∧ checkK CR [u, u] = 0) := Lib.hid (fun h => by
                rw [Bool.and_eq_true, decide_eq_true_eq] at h
                exact HRD.out h.2 h.1)
              clear HRD
              generalize (decide (kr = 0) && ab) = rb at *
              go_upto_if 254 with fail
              go_cut [] from 255 to 267 (fun wx => Ext w18 wx)
              case first =>
                cases rb
                · go_wp2_with fail
                  go_meet
                  case rel => exact Ext.refl _
                · have HRR := Lib.hid (Relates_c _ _ _ _ CR u u w18 HM18.out (HIU.out.ext hX18) (HIU.out.ext hX18))
                  rw [(HRD2.out rfl).1, (HRD2.out rfl).2] at HRR
                  go_wp2_with fail
                  refine HRR.out.mono ?_; rintro e w19 ⟨rfl, hx19⟩
                  go_wp2_with fail
                  go_meet
                  case rel => exact hx19
              case rest =>
                have hx19 : Ext w18 wc := hcut
                have hX19 := hX18.trans hx19
                clear s0 s1 s2 HRD2 hcut
                have HC2 := Lib.hid (Compose_c _ _ _ _ m n wc (HR.out.ext hX19) (HRN.out.ext hX19))
                generalize composeM m n = CM at *
                generalize composeK m n = ck at *
                go_wp2_with fail
                refine HC2.out.mono ?_; intro e w20 hr20
                obtain ⟨a20, c20, b20, d20, rfl, hM20, hx20⟩ := hr20.openT
                clear hr20 HC2
                obtain ⟨w21, hw21⟩ : ∃ w21, w21 = w20.alloc (.cells #[.int .i64 CM.s, .slice a20 CM.a.length c20, .slice b20 CM.e.length d20] 25) := ⟨_, rfl⟩
                have hY21 : Ext w20 w21 := by rw [hw21]; exact Ext.alloc _ _
                have t0 : ∀ W, Ext w21 W → W.cell? ⟨w20.heap.size, 0, none⟩ = some (.int .i64 CM.s) := by rw [hw21]; exact kept_alloc w20 _ _ rfl
                have t1 : ∀ W, Ext w21 W → W.cell? ⟨w20.heap.size, 1, none⟩ = some (.slice a20 CM.a.length c20) := by rw [hw21]; exact kept_alloc w20 _ _ rfl
                have t2 : ∀ W, Ext w21 W → W.cell? ⟨w20.heap.size, 2, none⟩ = some (.slice b20 CM.e.length d20) := by rw [hw21]; exact kept_alloc w20 _ _ rfl
                have hX21 := (hX19.trans hx20).trans hY21
                have H21 : Ext w21 w21 := Ext.refl _
                have HM21 := Lib.hid (hM20.ext hY21)
                have HW21 := Lib.hid hw21; clear hw21 hM20
                have hx21 := hx20.trans hY21
                by_cases hck : ck = 0
                · subst hck
                  go_upto_region 34 with fail
                  rw [← HW21.out]
                  go_wp2_with fail
                  refine (Images_c _ _ _ CM u w21 HM21.out (HIU.out.ext hX21)).mono ?_; rintro e w22 ⟨v22, rfl, hv22, hx22⟩
                  have hv22' : Rows w22 v22 _ := hv22
                  obtain ⟨a22, c22, rfl, _, _, HA22⟩ := Rows.open_ hv22'
                  clear hv22 hv22'
                  have hX22 := hX21.trans hx22
                  have HIM := Lib.hid (Images_c _ _ _ m u w22 (HR.out.ext hX22) (HIU.out.ext hX22))
                  rw [HLL.out, HIK.out] at HIM
                  go_wp2_with fail
                  refine HIM.out.mono ?_; rintro e w23 ⟨v23, rfl, hv23, hx23⟩
                  have hv23' : Rows w23 v23 L := hv23
                  obtain ⟨a23, c23, rfl, _, _, HA23⟩ := Rows.open_ hv23'
                  clear hv23 hv23' HIM
                  have hX23 := hX22.trans hx23
                  have HX23 := Lib.hid hx23
                  generalize imagesL CM u = LA at *
                  generalize imagesK CM u = ik1 at *
                  clear t0 t1 t2
                  by_cases h1 : ik1 = 0
                  · subst h1
                    by_cases h2 : ik = 0
                    · subst h2
                      obtain ⟨F1, F2⟩ := HFD.out (by first | exact rfl | exact trivial) (by first | exact rfl | exact trivial) (by first | exact rfl | exact trivial)
                      have HF1 := Lib.hid F1
                      have HF2 := Lib.hid F2
                      clear F1 F2 HFD
                      go_wp2_with fail
                      go_loopg [40] LA.length (fun z i wr => ∃ k : Nat, k ≤ LA.length ∧ LA.length ≤ k + z ∧ i = .int .i64 k ∧ Ext w23 wr)
                      case atStart => exact ⟨0, by omega, by omega, rfl, Ext.refl _⟩
                      case round =>
                        obtain ⟨k, hk, hkz, rfl, hXr'⟩ := hrel
                        obtain ⟨g1, rfl⟩ : ∃ g : Nat, g = gk := ⟨_, rfl⟩
                        have hXr : Ext wA wr := hX23.trans hXr'
                        by_cases hlt : k < LA.length
                        · have hkI : (k : Int) < (LA.length : Int) := by omega
                          by_cases h20 : k < 20
                          · have hkJ : (k : Int) < 20 := by omega
                            obtain ⟨bv6, ov6, rfl, u6, hc6, hi6⟩ := HA22.out k hlt
                            replace hc6 := HX23.out.keep hc6
                            have hiv := Lib.hid (hi6.ext HX23.out)
                            obtain ⟨av6, cv6, rfl, _⟩ := hi6.open_
                            have hmem : LA[k]?.getD [] ∈ LA := by rw [List.getElem?_eq_getElem hlt]; exact List.getElem_mem hlt
                            have HF1k := Lib.hid (fun w hw => HF1.out w hw _ hmem)
                            have HF2k := Lib.hid (HF2.out _ hmem)
                            clear hi6 hmem
                            generalize hy : LA[k]?.getD [] = y at *
                            clear hy
                            go_wp2_with fail
                            go_loopg [42, 41] L.length (fun z i v41 wr => ∃ (j : Nat) (sb : Bool), j ≤ L.length ∧ L.length ≤ j + z ∧ i = .int .i64 j ∧ v41 = .bool sb ∧ Hid (sb = false → ∀ w ∈ L.take j, relatesB n w y = false) ∧ Ext w23 wr)
                            case atStart => exact ⟨0, false, by omega, by omega, rfl, rfl, Lib.hid (fun _ w hw => by simp at hw), hXr'⟩
                            case round =>
                              clear hXr' hXr
                              obtain ⟨j, sb, hj, hjz, rfl, rfl, HNO, hXr'⟩ := hrel
                              have hXr : Ext wA wr := hX23.trans hXr'
                              by_cases hlj : j < L.length
                              · have hjI : (j : Int) < (L.length : Int) := by omega
                                cases sb
                                · obtain ⟨bv7, ov7, rfl, u7, hc7, hi7⟩ := HA23.out j hlj
                                  have hd6 := hXr'.keep hc6
                                  have hd7 := hXr'.keep hc7
                                  have hiw := Lib.hid (hi7.ext hXr')
                                  obtain ⟨av7, cv7, rfl, _⟩ := hi7.open_
                                  have hmem : L[j]?.getD [] ∈ L := by rw [List.getElem?_eq_getElem hlj]; exact List.getElem_mem hlj
                                  have hck := HF1k.out _ hmem
                                  have HTK : Hid (L.take (j + 1) = L.take j ++ [L[j]?.getD []]) := Lib.hid (take_next hlj [])
                                  clear hi7 hmem hc7
                                  generalize L[j]?.getD [] = x at *
                                  have HRL := Lib.hid (fun W (hW : Ext wr W) => Relates_c _ _ _ _ n x y W (HRN.out.ext (hXr.trans hW)) (hiw.out.ext hW) (hiv.out.ext (hXr'.trans hW)))
                                  rw [hck] at HRL
                                  clear hck
                                  generalize hrb : relatesB n x y = rb at *
                                  have HRB := Lib.hid hrb; clear hrb
                                  go_wp2_with fail
                                  refine wp_region_peek (Ext wr) (fun _ => True) [] [.look 0, .look 1, .look 2, .look 3, .look 4, .look 5, .look 6, .look 7, .look 8, .go 9, .look 10, .look 11, .look 12, .look 13, .look 14] (by kernel_rfl) (by kernel_rfl) (by intro c a d v w h; cases d <;> exact h) ?_
                                  have hd : Ext wr { wr with drawn := wr.drawn + 1 } := drawn_ext wr
                                  have hs : ∀ s : InC (Ext wr), Ext wA s.w := fun s => hXr.trans s.h
                                  have q0 := fun s : InC (Ext wr) => s.h.keep hd6
                                  have q1 := fun s : InC (Ext wr) => s.h.keep hd7
                                  generalize { wr with drawn := wr.drawn + 1 } = V1 at *
                                  iterate 9 (refine wpPeek_look rfl ‹_› (fun K hK => ?_); go_simp; first | (refine hK _ ?_; clear hK K) | (refine ⟨_, fun _ => rfl, hK _ ?_⟩; clear hK K))
                                  refine wpPeek_go rfl rfl (fun K hK => ?_)
                                  clear hs q0 q1
                                  go_wp2_with fail
                                  refine (HRL.out V1 hd).mono ?_; rintro e w8 ⟨rfl, hx8⟩
                                  go_wp2_with fail
                                  refine ⟨KeepE.of (fun h => h.trans hx8) (fun _ => trivial), ?_⟩
                                  replace hd := hd.trans hx8
                                  iterate 5 (refine wpPeek_look rfl ‹_› (fun K hK => ?_); go_simp; first | (refine hK _ ?_; clear hK K) | (refine ⟨_, fun _ => rfl, hK _ ?_⟩; clear hK K))
                                  refine wpPeek_nil ?_
                                  have hX8 := hXr'.trans hd
                                  clear hd hd6 hd7
                                  go_wp2_with fail
                                  go_roundg (gk-1)
                                  case measure => omega
                                  case rel => exact ⟨j+1, rb, by omega, by omega, by go_num, rfl, Lib.hid (fun hf w hw => by
                                    rw [HTK.out, List.mem_append, List.mem_singleton] at hw
                                    rcases hw with hw | rfl
                                    · exact HNO.out (by first | exact rfl | exact trivial) w hw
                                    · rw [HRB.out]; exact hf), hX8⟩
                                · go_wp2_with fail
                                  go_roundg (g1-1)
                                  case measure => omega
                                  case rel => exact ⟨k+1, by omega, by omega, by go_num, hXr'⟩
                              · have hjI : ¬ (j : Int) < (L.length : Int) := by omega
                                cases sb
                                · exfalso
                                  obtain ⟨w, hw1, hw2⟩ := HF2k.out
                                  have := HNO.out (by first | exact rfl | exact trivial) w (by rw [List.take_of_length_le (by omega)]; exact hw1)
                                  rw [this] at hw2; cases hw2
                                · go_wp2_with fail
                                  go_roundg (g1-1)
                                  case measure => omega
                                  case rel => exact ⟨k+1, by omega, by omega, by go_num, hXr'⟩
                          · have hkJ : ¬ (k : Int) < 20 := by omega
                            have hkD : decide ((k : Int) < 20) = false := by simpa using hkJ
                            go_wp2_with fail
                            go_ret
                            exact RV.bool rfl (hE0.trans hXr)
                        · have hkI : ¬ (k : Int) < (LA.length : Int) := by omega
                          go_wp2_with fail
                          go_ret
                          exact RV.bool rfl (hE0.trans hXr)
                    · have hk : (ik != 0) = true := by simp [h2]
                      go_wp2_with fail
                      go_ret
                      exact RV.bool rfl (hE0.trans hX23)
                  · have hk : (ik1 != 0) = true := by simp [h1]
                    go_wp2_with fail
                    go_ret
                    exact RV.bool rfl (hE0.trans hX23)
                · have hk : (ck != 0) = true := by simp [hck]
                  obtain ⟨hs0, ha0, he0⟩ : CM.s = 0 ∧ CM.a.length = 0 ∧ CM.e.length = 0 := by rw [HCN.out hck]; exact ⟨rfl, rfl, rfl⟩
                  simp only [hs0, ha0, he0] at HW21 t0 t1 t2 ⊢
                  clear hs0 ha0 he0
                  go_upto_region 34 with fail
                  rw [← HW21.out]
                  go_wp2_with fail
                  go_ret
                  exact RV.bool rfl (hE0.trans hX21)

      · have HIB := images_bad hf
        have HIM := Lib.hid (Images_c _ _ _ m u w6 (HR.out.ext hX6) (HIU.out.ext hX6))
        rw [HIB.1, HIB.2] at HIM
        have HAC := Lib.hid (fun W (hW : Ext wA W) => Accepts_c _ _ _ m u W (HR.out.ext hW) (HIU.out.ext hW))
        have hk : (checkK m [u] != 0) = true := by simp [hf]
        have hkk : (checkK m [u] == checkK m [u]) = true := by simp
        generalize checkK m [u] = f at *
        generalize acceptsB m u = ab at *
        clear HIB hf
        go_wp2_with fail
        refine HIM.out.mono ?_; rintro e w7 ⟨v7, rfl, hv7, hx7⟩
        have hv7' : Rows w7 v7 [] := hv7
        obtain ⟨a7, c7, rfl, _⟩ := Rows.open_ hv7'
        clear hv7 hv7'
        rw [List.length_nil]
        have hX7 := hX6.trans hx7
        go_wp2_with fail
        refine (HAC.out w7 hX7).mono ?_; rintro e w8 ⟨rfl, hx8⟩
        have hX8 := hX7.trans hx8
        go_wp2_with fail
        go_ret
        exact RV.bool rfl (hE0.trans hX8)

    · go_upto_region 2 with fail
      rw [← HW4.out]
      go_wp2_with fail
      refine HLM.out.mono ?_; rintro e w5 ⟨rfl, hx5⟩
      have hX5 := hX4.trans (hxL.trans hx5)
      clear p0 p1 p2
      go_wp2_with fail
      refine (HLN.out w5 hX5).mono ?_; rintro e w6 ⟨rfl, hx6⟩
      have hX6 := hX5.trans hx6
      go_wp2_with fail
      go_ret
      exact RV.bool rfl (hE0.trans hX6)

  · go_upto_region 2 with fail
    rw [← HW4.out]
    go_wp2_with fail
    refine HLM.out.mono ?_; rintro e w5 ⟨rfl, hx5⟩
    have hX5 := hX4.trans (hxL.trans hx5)
    go_wp2_with fail
    go_ret
    exact RV.bool rfl (hE0.trans hX5)

end Go.Proofs.Ytpbflkbelhlogaa
