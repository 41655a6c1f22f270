/- MachinePlains: for every input the call returns true. No condition. -/
import Derived.Test.YtodhmkbkcjpnkaaMacS
import Derived.Test.YtodhmkbkcjpnkaaPlnP
namespace Go.Proofs.Ytodhmkbkcjpnkaa
open Go.RowKit Go.Shelf
set_option linter.unusedVariables false

theorem RMac2.open_ {m : Mac} {k : Int} {w w' : World} {e : Ending} (h : RMac2 m k w e w') : ∃ a1 c1 a2 c2, e = .returned (.tuple #[.agg #[.int .i64 m.s, .slice a1 m.a.length c1, .slice a2 m.e.length c2], .int .i64 k]) ∧ MacR w' (.slice a1 m.a.length c1) (.slice a2 m.e.length c2) m ∧ Ext w w' := by
  obtain ⟨av, ev, rfl, hM, hx⟩ := h
  obtain ⟨a1, c1, rfl, _⟩ := hM.a.open_
  obtain ⟨a2, c2, rfl, _⟩ := hM.e.open_
  exact ⟨a1, c1, a2, c2, rfl, hM, hx⟩
theorem sameWords_same4 (va vb : Value) (a : List (List Int)) (w : World) (ha : Rows w va a) (hb : Rows w vb a) : Calls Try.prog 26 #[va, vb] w (RQ true w) := by
  have := sameWords_c va vb a a w ha hb
  rwa [show rowsB a a = true by rw [rowsB_iff]; simp] at this

set_option maxHeartbeats 4000000 in
set_option maxRecDepth 100000 in
theorem machinePlains_c (av ev : Value) (m : Mac) (n : Int) (uv : Value) (u : List Int) (w : World) (h : MacR w av ev m) (hi : (Lit.int .i64 n).wf = true) (hu : Ints w uv u) :
    Calls Try.prog 13 #[.agg #[.int .i64 m.s, av, ev], .int .i64 n, uv] w (RV (.bool true) w) := by
  obtain ⟨wA, hwA⟩ : ∃ wA, wA = w.alloc (.cells #[.int .i64 m.s, av, ev] 25) := ⟨_, rfl⟩
  have hE0 : Ext w wA := by rw [hwA]; exact Ext.alloc _ _
  have k0 : ∀ W, Ext wA W → W.cell? ⟨w.heap.size, 0, none⟩ = some (.int .i64 m.s) := by rw [hwA]; exact kept_alloc w _ _ rfl
  have k1 : ∀ W, Ext wA W → W.cell? ⟨w.heap.size, 1, none⟩ = some av := by rw [hwA]; exact kept_alloc w _ _ rfl
  have k2 : ∀ W, Ext wA W → W.cell? ⟨w.heap.size, 2, none⟩ = some ev := by rw [hwA]; exact kept_alloc w _ _ rfl
  have H0 : Ext wA wA := Ext.refl _
  have HR := Lib.hid (h.ext hE0)
  obtain ⟨aa, ca, rfl, hla, hma, HA⟩ := (h.ext hE0).a.open_
  obtain ⟨ae, ce, rfl, hle, hme, HE⟩ := (h.ext hE0).e.open_
  have HI_u := Lib.hid (hu.ext hE0)
  obtain ⟨a_u, c_u, rfl, _, _, HU_u⟩ := (hu.ext hE0).open_
  have hxL := Ext.alloc wA (.cells #[.slice a_u u.length c_u] 23)
  have HLG := Lib.hid (by have := Long_c _ _ _ m [u] _ (HR.out.ext hxL) (rows_new wA [.slice a_u u.length c_u] [u] (by exact (AllInts.cons HI_u.out (AllInts.nil _))) (by simp)); rw [show wA.heap.size = w.heap.size + 1 by rw [hwA]; simp] at this; exact this)
  have HW := Lib.hid hwA; clear hwA h hu
  have HLB := Lib.hid (longM_bd (m := m) (ls := [u]))
  generalize longM m [u] = b1 at *
  cases b1
  · have HLB2 := HLB.out rfl
    clear HLB
    go_enter Try.func13, Try.ntmps13
    go_wp2_with fail
    rw [← HW.out]
    refine HLG.out.mono ?_; rintro e w2 ⟨rfl, hx2⟩
    replace hx2 := hxL.trans hx2
    clear HLG
    go_wp2_with fail
    have HRP := Lib.hid (fun W => rPlain_c n W)
    refine (Plain_c n w2).mono ?_; intro e w3 hr3
    generalize plainM n = PM at *
    generalize plainK n = pk at *
    obtain ⟨a3, c3, b3, d3, rfl, hM3, hx3⟩ := hr3.open_
    clear hr3
    have hX3 := hx2.trans hx3
    have hpk : (pk != pk) = false := by simp
    obtain ⟨w4, hw4⟩ : ∃ w4, w4 = w3.alloc (.cells #[.int .i64 PM.s, .slice a3 PM.a.length c3, .slice b3 PM.e.length d3] 25) := ⟨_, rfl⟩
    have hY4 : Ext w3 w4 := by rw [hw4]; exact Ext.alloc _ _
    have p0 : ∀ W, Ext w4 W → W.cell? ⟨w3.heap.size, 0, none⟩ = some (.int .i64 PM.s) := by rw [hw4]; exact kept_alloc w3 _ _ rfl
    have p1 : ∀ W, Ext w4 W → W.cell? ⟨w3.heap.size, 1, none⟩ = some (.slice a3 PM.a.length c3) := by rw [hw4]; exact kept_alloc w3 _ _ rfl
    have p2 : ∀ W, Ext w4 W → W.cell? ⟨w3.heap.size, 2, none⟩ = some (.slice b3 PM.e.length d3) := by rw [hw4]; exact kept_alloc w3 _ _ rfl
    have HM4 := Lib.hid (hM3.ext hY4)
    have hX4 := hX3.trans hY4
    have HW4 := Lib.hid hw4; clear hw4 hM3
    go_wp2_with fail
    rw [← HW4.out]
    refine (HRP.out w4).mono ?_; intro e w5 hr5
    obtain ⟨a5, c5, b5, d5, rfl, hM5, hx5⟩ := hr5.open_
    clear hr5 HRP
    obtain ⟨w6, hw6⟩ : ∃ w6, w6 = w5.alloc (.cells #[.int .i64 PM.s, .slice a5 PM.a.length c5, .slice b5 PM.e.length d5] 25) := ⟨_, rfl⟩
    have hY6 : Ext w5 w6 := by rw [hw6]; exact Ext.alloc _ _
    have q0 : ∀ W, Ext w6 W → W.cell? ⟨w5.heap.size, 0, none⟩ = some (.int .i64 PM.s) := by rw [hw6]; exact kept_alloc w5 _ _ rfl
    have q1 : ∀ W, Ext w6 W → W.cell? ⟨w5.heap.size, 1, none⟩ = some (.slice a5 PM.a.length c5) := by rw [hw6]; exact kept_alloc w5 _ _ rfl
    have q2 : ∀ W, Ext w6 W → W.cell? ⟨w5.heap.size, 2, none⟩ = some (.slice b5 PM.e.length d5) := by rw [hw6]; exact kept_alloc w5 _ _ rfl
    have HM6 := Lib.hid (hM5.ext hY6)
    have hZ6 := hx5.trans hY6
    have hX6 := hX4.trans hZ6
    have H66 : Ext w6 w6 := Ext.refl _
    have HW6 := Lib.hid hw6; clear hw6 hM5
    go_upto_region 5 with fail
    rw [← HW6.out]
    go_wp2_with fail
    refine (same_c _ _ _ _ PM w6 (HM4.out.ext hZ6) HM6.out).mono ?_; rintro e w7 ⟨rfl, hx7⟩
    have hX7 := hX6.trans hx7
    clear p0 p1 p2 q0 q1 q2 HM4 HM6 hZ6
    go_wp2_with fail
    have HPL := Lib.hid (Plain_c 6 w7)
    rw [plain6_K] at HPL
    have hCG : validM m = 0 → composeK m (plainM 6) = 0 ∧ imagesL (composeM m (plainM 6)) u = imagesL m u ∧ imagesK (composeM m (plainM 6)) u = imagesK m u := fun h => ⟨(compose_plain h).2, images_same h u⟩
    have hCB : validM m ≠ 0 → composeK m (plainM 6) = validM m := fun h => (compose_bad h).2
    have HCG := Lib.hid hCG
    have HCB := Lib.hid hCB
    clear hCG hCB
    generalize plainM 6 = P6 at *
    refine HPL.out.mono ?_; intro e w8 hr8
    obtain ⟨a8, c8, b8, d8, rfl, hM8, hx8⟩ := hr8.open_
    clear hr8 HPL
    have hX8 := hX7.trans hx8
    obtain ⟨w9, hw9⟩ : ∃ w9, w9 = w8.alloc (.cells #[.int .i64 P6.s, .slice a8 P6.a.length c8, .slice b8 P6.e.length d8] 25) := ⟨_, rfl⟩
    have hY9 : Ext w8 w9 := by rw [hw9]; exact Ext.alloc _ _
    have r0 : ∀ W, Ext w9 W → W.cell? ⟨w8.heap.size, 0, none⟩ = some (.int .i64 P6.s) := by rw [hw9]; exact kept_alloc w8 _ _ rfl
    have r1 : ∀ W, Ext w9 W → W.cell? ⟨w8.heap.size, 1, none⟩ = some (.slice a8 P6.a.length c8) := by rw [hw9]; exact kept_alloc w8 _ _ rfl
    have r2 : ∀ W, Ext w9 W → W.cell? ⟨w8.heap.size, 2, none⟩ = some (.slice b8 P6.e.length d8) := by rw [hw9]; exact kept_alloc w8 _ _ rfl
    have HM9 := Lib.hid (hM8.ext hY9)
    have hX9 := hX8.trans hY9
    have H99 : Ext w9 w9 := Ext.refl _
    have HW9 := Lib.hid hw9; clear hw9 hM8
    go_upto_region 8 with fail
    rw [← HW9.out]
    go_wp2_with fail
    refine (Compose_c _ _ _ _ m P6 w9 (HR.out.ext hX9) HM9.out).mono ?_; intro e w10 hr10
    generalize composeM m P6 = CM at *
    generalize hck : composeK m P6 = ck at *
    obtain ⟨a10, c10, b10, d10, rfl, hM10, hx10⟩ := hr10.open_
    clear hr10
    have hX10 := hX9.trans hx10
    obtain ⟨w11, hw11⟩ : ∃ w11, w11 = w10.alloc (.cells #[.int .i64 CM.s, .slice a10 CM.a.length c10, .slice b10 CM.e.length d10] 25) := ⟨_, rfl⟩
    have hY11 : Ext w10 w11 := by rw [hw11]; exact Ext.alloc _ _
    have s0 : ∀ W, Ext w11 W → W.cell? ⟨w10.heap.size, 0, none⟩ = some (.int .i64 CM.s) := by rw [hw11]; exact kept_alloc w10 _ _ rfl
    have s1 : ∀ W, Ext w11 W → W.cell? ⟨w10.heap.size, 1, none⟩ = some (.slice a10 CM.a.length c10) := by rw [hw11]; exact kept_alloc w10 _ _ rfl
    have s2 : ∀ W, Ext w11 W → W.cell? ⟨w10.heap.size, 2, none⟩ = some (.slice b10 CM.e.length d10) := by rw [hw11]; exact kept_alloc w10 _ _ rfl
    have HM11 := Lib.hid (hM10.ext hY11)
    have hX11 := hX10.trans hY11
    have H11 : Ext w11 w11 := Ext.refl _
    have HW11 := Lib.hid hw11; clear hw11 hM10
    by_cases hv : validM m = 0
    · obtain ⟨hck2, hIL, hIK⟩ := HCG.out hv
      clear hck
      subst hck2
      have HVM := Lib.hid (rValidate_c _ _ m w11 (HR.out.ext hX11))
      rw [hv] at HVM
      have HIL := Lib.hid hIL
      have HIK := Lib.hid hIK
      clear hIL hIK hv
      go_upto_region 9 with fail
      rw [← HW11.out]
      go_wp2_with fail
      refine HVM.out.mono ?_; rintro e w12 ⟨rfl, hx12⟩
      have hX12 := hX11.trans hx12
      go_wp2_with fail
      refine (Images_c _ _ _ m u w12 (HR.out.ext hX12) (HI_u.out.ext hX12)).mono ?_; rintro e w13 ⟨v13, rfl, hv13, hx13⟩
      have hv13' : Rows w13 v13 _ := hv13
      obtain ⟨a13, c13, rfl, _⟩ := Rows.open_ hv13
      have HV13 := Lib.hid hv13'; clear hv13 hv13'
      have hX13 := hX12.trans hx13
      have hZ13 := hx12.trans hx13
      have HI2 := Lib.hid (Images_c _ _ _ CM u w13 (HM11.out.ext hZ13) (HI_u.out.ext hX13))
      rw [HIL.out, HIK.out] at HI2
      generalize imagesL m u = L at *
      generalize imagesK m u = ik at *
      have hik : (ik == ik) = true := by simp
      go_wp2_with fail
      refine HI2.out.mono ?_; rintro e w14 ⟨v14, rfl, hv14, hx14⟩
      have hv14' : Rows w14 v14 _ := hv14
      obtain ⟨a14, c14, rfl, _⟩ := Rows.open_ hv14
      have HV14 := Lib.hid hv14'; clear hv14 hv14'
      have hX14 := hX13.trans hx14
      have HSW := Lib.hid (sameWords_same4 _ _ _ w14 (Rows.ext HV13.out hx14) HV14.out)
      clear HI2
      go_wp2_with fail
      refine HSW.out.mono ?_; rintro e w15 ⟨rfl, n7, hw7⟩
      have hX15 : Ext wA w15 := hX14.trans (by rw [hw7]; exact Ext.drewN _ _)
      clear hw7 HSW
      go_wp2_with fail
      refine (sane_c _).mono ?_; rintro e wK ⟨rfl, hxK⟩
      go_wp2_with fail
      go_ret
      exact RV.bool rfl (hE0.trans (hX15.trans hxK))
    · have hcv := HCB.out hv
      clear hck
      have HVM := Lib.hid (rValidate_c _ _ m w11 (HR.out.ext hX11))
      have hvv : (ck != ck) = false := by simp
      rw [← hcv] at HVM hv
      have hvk : (ck != 0) = true := by simp [hv]
      clear hv hcv
      go_upto_region 9 with fail
      rw [← HW11.out]
      go_wp2_with fail
      refine HVM.out.mono ?_; rintro e w12 ⟨rfl, hx12⟩
      have hX12 := hX11.trans hx12
      go_wp2_with fail
      refine (sane_c _).mono ?_; rintro e wK ⟨rfl, hxK⟩
      go_wp2_with fail
      go_ret
      exact RV.bool rfl (hE0.trans (hX12.trans hxK))
  · go_enter Try.func13, Try.ntmps13
    go_wp2_with fail
    rw [← HW.out]
    refine HLG.out.mono ?_; rintro e w2 ⟨rfl, hx2⟩
    replace hx2 := hxL.trans hx2
    go_wp2_with fail
    refine (sane_c _).mono ?_; rintro e wK ⟨rfl, hxK⟩
    go_wp2_with fail
    go_ret
    exact RV.bool rfl (hE0.trans (hx2.trans hxK))
end Go.Proofs.Ytodhmkbkcjpnkaa
