/- MachineTrims: for every input the call returns true. No condition. -/
import Derived.Test.YtpbflkbelhlogaaMacS
import Derived.Test.YtpbflkbelhlogaaJoinedRowMachineTrims
import Derived.Test.YtpbflkbelhlogaaTrim
import Derived.Test.YtpbflkbelhlogaaRTrim
namespace Go.Proofs.Ytpbflkbelhlogaa
open Go.RowKit Go.Shelf
set_option linter.unusedVariables false

theorem RMac2.open_ {m : Mac} {k : Int} {w w' : World} {e : Ending} (h : RMac2 m k w e w') : ∃ a1 c1 a2 c2, e = .returned (.tuple #[.agg #[.int .i64 m.s, .slice a1 m.a.length c1, .slice a2 m.e.length c2], .int .i64 k]) ∧ MacR w' (.slice a1 m.a.length c1) (.slice a2 m.e.length c2) m ∧ Ext w w' := by
  obtain ⟨av, ev, rfl, hM, hx⟩ := h
  obtain ⟨a1, c1, rfl, _⟩ := hM.a.open_
  obtain ⟨a2, c2, rfl, _⟩ := hM.e.open_
  exact ⟨a1, c1, a2, c2, rfl, hM, hx⟩
theorem sameWords_same4 (va vb : Value) (a : List (List Int)) (w : World) (ha : Rows w va a) (hb : Rows w vb a) : Calls Try.prog 27 #[va, vb] w (RQ true w) := by
  have := sameWords_c va vb a a w ha hb
  rwa [show rowsB a a = true by rw [rowsB_iff]; simp] at this

set_option maxHeartbeats 4000000 in
set_option maxRecDepth 100000 in
theorem machineTrims_c (av ev : Value) (m : Mac) (uv : Value) (u : List Int) (w : World) (h : MacR w av ev m) (hu : Ints w uv u) :
    Calls Try.prog 18 #[.agg #[.int .i64 m.s, av, ev], uv] w (RV (.bool true) w) := by
  obtain ⟨wA, hwA⟩ : ∃ wA, wA = w.alloc (.cells #[.int .i64 m.s, av, ev] 25) := ⟨_, rfl⟩
  have hE0 : Ext w wA := by rw [hwA]; exact Ext.alloc _ _
  have k0 : ∀ W, Ext wA W → W.cell? ⟨w.heap.size, 0, none⟩ = some (.int .i64 m.s) := by rw [hwA]; exact kept_alloc w _ _ rfl
  have k1 : ∀ W, Ext wA W → W.cell? ⟨w.heap.size, 1, none⟩ = some av := by rw [hwA]; exact kept_alloc w _ _ rfl
  have k2 : ∀ W, Ext wA W → W.cell? ⟨w.heap.size, 2, none⟩ = some ev := by rw [hwA]; exact kept_alloc w _ _ rfl
  have H0 : Ext wA wA := Ext.refl _
  have HR := Lib.hid (h.ext hE0)
  obtain ⟨aa, ca, rfl, hla, hma, HA⟩ := (h.ext hE0).a.open_
  obtain ⟨ae, ce, rfl, hle, hme, HE⟩ := (h.ext hE0).e.open_
  have HI_u := Lib.hid (hu.ext hE0)
  obtain ⟨a_u, c_u, rfl, _, _, HU_u⟩ := (hu.ext hE0).open_
  have hxL := Ext.alloc wA (.cells #[.slice a_u u.length c_u] 23)
  have HLG := Lib.hid (by have := Long_c _ _ _ m [u] _ (HR.out.ext hxL) (rows_new wA [.slice a_u u.length c_u] [u] (by exact (AllInts.cons HI_u.out (AllInts.nil _))) (by simp)); rw [show wA.heap.size = w.heap.size + 1 by rw [hwA]; simp] at this; exact this)
  have HW := Lib.hid hwA; clear hwA h hu
  have HLB := Lib.hid (longM_bd (m := m) (ls := [u]))
  generalize longM m [u] = b1 at *
  cases b1
  · have HLB2 := HLB.out rfl
    clear HLB
    go_enter Try.func18, Try.ntmps18
    go_wp2_with fail
    rw [← HW.out]
    refine HLG.out.mono ?_; rintro e w2 ⟨rfl, hx2⟩
    replace hx2 := hxL.trans hx2
    clear HLG
    go_wp2_with fail
    have HRT := Lib.hid (fun W (hW : Ext wA W) => rTrim_c _ _ m W (HR.out.ext hW))
    have HTG : Hid (validM m = 0 → validM (trimM m) = 0 ∧ trimM (trimM m) = trimM m ∧ imagesL (trimM m) u = imagesL m u ∧ imagesK (trimM m) u = imagesK m u) := Lib.hid (fun h => ⟨trimM_valid h, trimM_idem h, trims_same h u⟩)
    refine (Trim_c _ _ m w2 (HR.out.ext hx2)).mono ?_; intro e w3 hr3
    generalize trimM m = TM at *
    generalize validM m = vk at *
    obtain ⟨a3, c3, b3, d3, rfl, hM3, hx3⟩ := hr3.open_
    clear hr3
    have hX3 := hx2.trans hx3
    have hvv : (vk != vk) = false := by simp
    obtain ⟨w4, hw4⟩ : ∃ w4, w4 = w3.alloc (.cells #[.int .i64 TM.s, .slice a3 TM.a.length c3, .slice b3 TM.e.length d3] 25) := ⟨_, rfl⟩
    have hY4 : Ext w3 w4 := by rw [hw4]; exact Ext.alloc _ _
    have p0 : ∀ W, Ext w4 W → W.cell? ⟨w3.heap.size, 0, none⟩ = some (.int .i64 TM.s) := by rw [hw4]; exact kept_alloc w3 _ _ rfl
    have p1 : ∀ W, Ext w4 W → W.cell? ⟨w3.heap.size, 1, none⟩ = some (.slice a3 TM.a.length c3) := by rw [hw4]; exact kept_alloc w3 _ _ rfl
    have p2 : ∀ W, Ext w4 W → W.cell? ⟨w3.heap.size, 2, none⟩ = some (.slice b3 TM.e.length d3) := by rw [hw4]; exact kept_alloc w3 _ _ rfl
    have HM4 := Lib.hid (hM3.ext hY4)
    have hX4 := hX3.trans hY4
    have HW4 := Lib.hid hw4; clear hw4 hM3
    go_upto_region 4 with fail
    rw [← HW4.out]
    go_wp2_with fail
    refine (HRT.out w4 hX4).mono ?_; intro e w5 hr5
    obtain ⟨a5, c5, b5, d5, rfl, hM5, hx5⟩ := hr5.open_
    clear hr5 HRT
    obtain ⟨w6, hw6⟩ : ∃ w6, w6 = w5.alloc (.cells #[.int .i64 TM.s, .slice a5 TM.a.length c5, .slice b5 TM.e.length d5] 25) := ⟨_, rfl⟩
    have hY6 : Ext w5 w6 := by rw [hw6]; exact Ext.alloc _ _
    have q0 : ∀ W, Ext w6 W → W.cell? ⟨w5.heap.size, 0, none⟩ = some (.int .i64 TM.s) := by rw [hw6]; exact kept_alloc w5 _ _ rfl
    have q1 : ∀ W, Ext w6 W → W.cell? ⟨w5.heap.size, 1, none⟩ = some (.slice a5 TM.a.length c5) := by rw [hw6]; exact kept_alloc w5 _ _ rfl
    have q2 : ∀ W, Ext w6 W → W.cell? ⟨w5.heap.size, 2, none⟩ = some (.slice b5 TM.e.length d5) := by rw [hw6]; exact kept_alloc w5 _ _ rfl
    have HM6 := Lib.hid (hM5.ext hY6)
    have hZ6 := hx5.trans hY6
    have hX6 := hX4.trans hZ6
    have H66 : Ext w6 w6 := Ext.refl _
    have HW6 := Lib.hid hw6; clear hw6 hM5
    go_upto_region 5 with fail
    rw [← HW6.out]
    go_wp2_with fail
    refine (same_c _ _ _ _ TM w6 (HM4.out.ext hZ6) HM6.out).mono ?_; rintro e w7 ⟨rfl, hx7⟩
    have hX7 := hX6.trans hx7
    have hZ7 := hZ6.trans hx7
    clear q0 q1 q2 HM6 hZ6
    by_cases hv : vk = 0
    · obtain ⟨hV2, hI2, hIL, hIK⟩ := HTG.out hv
      subst hv
      have HTT := Lib.hid (fun W hW => Trim_c _ _ TM W (HM4.out.ext hW))
      rw [hV2, hI2] at HTT
      have HIL := Lib.hid hIL
      have HIK := Lib.hid hIK
      clear hIL hIK hV2 hI2 HTG
      go_wp2_with fail
      refine (Images_c _ _ _ m u w7 (HR.out.ext hX7) (HI_u.out.ext hX7)).mono ?_; rintro e w13 ⟨v13, rfl, hv13, hx13⟩
      have hv13' : Rows w13 v13 _ := hv13
      obtain ⟨a13, c13, rfl, _⟩ := Rows.open_ hv13
      have HV13 := Lib.hid hv13'; clear hv13 hv13'
      have hX13 := hX7.trans hx13
      have hZ13 := hZ7.trans hx13
      have HI2 := Lib.hid (Images_c _ _ _ TM u w13 (HM4.out.ext hZ13) (HI_u.out.ext hX13))
      rw [HIL.out, HIK.out] at HI2
      generalize imagesL m u = L at *
      generalize imagesK m u = ik at *
      have hik : (ik == ik) = true := by simp
      go_wp2_with fail
      refine HI2.out.mono ?_; rintro e w14 ⟨v14, rfl, hv14, hx14⟩
      have hv14' : Rows w14 v14 _ := hv14
      obtain ⟨a14, c14, rfl, _⟩ := Rows.open_ hv14
      have HV14 := Lib.hid hv14'; clear hv14 hv14'
      have hX14 := hX13.trans hx14
      have hZ14 := hZ13.trans hx14
      clear HI2
      go_wp2_with fail
      refine (HTT.out w14 hZ14).mono ?_; intro e w15 hr15
      obtain ⟨a15, c15, b15, d15, rfl, hM15, hx15⟩ := hr15.open_
      clear hr15 HTT
      obtain ⟨w16, hw16⟩ : ∃ w16, w16 = w15.alloc (.cells #[.int .i64 TM.s, .slice a15 TM.a.length c15, .slice b15 TM.e.length d15] 25) := ⟨_, rfl⟩
      have hY16 : Ext w15 w16 := by rw [hw16]; exact Ext.alloc _ _
      have r0 : ∀ W, Ext w16 W → W.cell? ⟨w15.heap.size, 0, none⟩ = some (.int .i64 TM.s) := by rw [hw16]; exact kept_alloc w15 _ _ rfl
      have r1 : ∀ W, Ext w16 W → W.cell? ⟨w15.heap.size, 1, none⟩ = some (.slice a15 TM.a.length c15) := by rw [hw16]; exact kept_alloc w15 _ _ rfl
      have r2 : ∀ W, Ext w16 W → W.cell? ⟨w15.heap.size, 2, none⟩ = some (.slice b15 TM.e.length d15) := by rw [hw16]; exact kept_alloc w15 _ _ rfl
      have HM16 := Lib.hid (hM15.ext hY16)
      have hx16 := hx15.trans hY16
      have hX16 := hX14.trans hx16
      have hZ16 := hZ14.trans hx16
      have HW16 := Lib.hid hw16; clear hw16 hM15
      have HSW := Lib.hid (sameWords_same4 _ _ _ w16 (Rows.ext HV13.out (hx14.trans hx16)) (Rows.ext HV14.out hx16))
      go_upto_region 12 with fail
      rw [← HW16.out]
      go_wp2_with fail
      refine HSW.out.mono ?_; rintro e w17 ⟨rfl, n7, hw7⟩
      have hx17 : Ext w16 w17 := (by rw [hw7]; exact Ext.drewN _ _)
      have hX17 := hX16.trans hx17
      have hZ17 := hZ16.trans hx17
      clear hw7 HSW
      go_wp2_with fail
      refine (same_c _ _ _ _ TM w17 (HM16.out.ext hx17) (HM4.out.ext hZ17)).mono ?_; rintro e w18 ⟨rfl, hx18⟩
      have hX18 := hX17.trans hx18
      go_wp2_with fail
      refine (sane_c _).mono ?_; rintro e wK ⟨rfl, hxK⟩
      go_wp2_with fail
      go_ret
      exact RV.bool rfl (hE0.trans (hX18.trans hxK))
    · have hvk : (vk != 0) = true := by simp [hv]
      clear hv
      go_wp2_with fail
      refine (sane_c _).mono ?_; rintro e wK ⟨rfl, hxK⟩
      go_wp2_with fail
      go_ret
      exact RV.bool rfl (hE0.trans (hX7.trans hxK))
  · go_enter Try.func18, Try.ntmps18
    go_wp2_with fail
    rw [← HW.out]
    refine HLG.out.mono ?_; rintro e w2 ⟨rfl, hx2⟩
    replace hx2 := hxL.trans hx2
    go_wp2_with fail
    refine (sane_c _).mono ?_; rintro e wK ⟨rfl, hxK⟩
    go_wp2_with fail
    go_ret
    exact RV.bool rfl (hE0.trans (hx2.trans hxK))
end Go.Proofs.Ytpbflkbelhlogaa
