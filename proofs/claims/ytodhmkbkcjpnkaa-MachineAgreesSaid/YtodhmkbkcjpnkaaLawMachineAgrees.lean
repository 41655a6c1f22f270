/- MachineAgrees: for every input the call returns true. No condition. -/
import Derived.Test.YtodhmkbkcjpnkaaMacS
import Derived.Test.YtodhmkbkcjpnkaaMacN
import Derived.Test.YtodhmkbkcjpnkaaMacZ
namespace Go.Proofs.Ytodhmkbkcjpnkaa
open Go.RowKit Go.Shelf
set_option linter.unusedVariables false

theorem images_has {m : Mac} {u v : List Int} (h : imagesK m u = 0) : (imagesL m u).contains v = true ↔ relP m u v 0 := by
  unfold imagesK at h
  split at h
  · rename_i h0
    obtain ⟨hm, _, _⟩ := checkK_ok h0
    unfold imagesL
    rw [if_pos h0]
    cases ho : imagesO m.s.toNat m u with
    | none => rw [ho] at h; simp at h
    | some L =>
      rw [List.contains_iff_mem]
      exact images_mem hm.in_ hm.outIn ho v
  · rename_i h0; exact absurd h h0
theorem agrees {m : Mac} {u v : List Int} (h1 : checkK m [u, v] = 0) (h2 : imagesK m u = 0) (h3 : imagesK (turnM m) v = 0) : (imagesL m u).contains v = relatesB m u v ∧ (imagesL (turnM m) v).contains u = relatesB m u v := by
  obtain ⟨hm, hul, _⟩ := checkK_ok (checkK_ok2 h1).1
  have hr : relatesB m u v = true ↔ relP m u v 0 := by
    unfold relatesB
    rw [if_pos h1, decide_eq_true_eq]
    exact cntUV_iff hm hul
  constructor
  · rw [Bool.eq_iff_iff, images_has h2, hr]
  · rw [Bool.eq_iff_iff, images_has h3, hr]
    exact ⟨relP_turn, relP_turn'⟩

set_option maxHeartbeats 4000000 in
set_option maxRecDepth 100000 in
theorem machineAgrees_c (av ev : Value) (m : Mac) (uv : Value) (u : List Int) (vv : Value) (v : List Int) (w : World) (h : MacR w av ev m) (hu : Ints w uv u) (hv : Ints w vv v) :
    Calls Try.prog 9 #[.agg #[.int .i64 m.s, av, ev], uv, vv] w (RV (.bool true) w) := by
  obtain ⟨wA, hwA⟩ : ∃ wA, wA = w.alloc (.cells #[.int .i64 m.s, av, ev] 25) := ⟨_, rfl⟩
  have hE0 : Ext w wA := by rw [hwA]; exact Ext.alloc _ _
  have k0 : ∀ W, Ext wA W → W.cell? ⟨w.heap.size, 0, none⟩ = some (.int .i64 m.s) := by rw [hwA]; exact kept_alloc w _ _ rfl
  have k1 : ∀ W, Ext wA W → W.cell? ⟨w.heap.size, 1, none⟩ = some av := by rw [hwA]; exact kept_alloc w _ _ rfl
  have k2 : ∀ W, Ext wA W → W.cell? ⟨w.heap.size, 2, none⟩ = some ev := by rw [hwA]; exact kept_alloc w _ _ rfl
  have H0 : Ext wA wA := Ext.refl _
  have HR := Lib.hid (h.ext hE0)
  obtain ⟨aa, ca, rfl, hla, hma, HA⟩ := (h.ext hE0).a.open_
  obtain ⟨ae, ce, rfl, hle, hme, HE⟩ := (h.ext hE0).e.open_
  have HI_u := Lib.hid (hu.ext hE0)
  obtain ⟨a_u, c_u, rfl, _, _, HU_u⟩ := (hu.ext hE0).open_
  have HI_v := Lib.hid (hv.ext hE0)
  obtain ⟨a_v, c_v, rfl, _, _, HU_v⟩ := (hv.ext hE0).open_
  have hxL := Ext.alloc wA (.cells #[.slice a_u u.length c_u, .slice a_v v.length c_v] 23)
  have HLG := Lib.hid (by have := Long_c _ _ _ m [u, v] _ (HR.out.ext hxL) (rows_new wA [.slice a_u u.length c_u, .slice a_v v.length c_v] [u, v] (by exact (AllInts.cons HI_u.out (AllInts.cons HI_v.out (AllInts.nil _)))) (by simp)); rw [show wA.heap.size = w.heap.size + 1 by rw [hwA]; simp] at this; exact this)
  have HW := Lib.hid hwA; clear hwA h hu hv
  have HLB := Lib.hid (longM_bd (m := m) (ls := [u, v]))
  generalize longM m [u, v] = b1 at *
  cases b1
  · have HLB2 := HLB.out rfl
    clear HLB
    go_enter Try.func9, Try.ntmps9
    go_wp2_with fail
    rw [← HW.out]
    refine HLG.out.mono ?_; rintro e w2 ⟨rfl, hx2⟩
    replace hx2 := hxL.trans hx2
    clear HLG
    go_wp2_with fail
    refine (Relates_c _ _ _ _ m u v w2 (HR.out.ext hx2) (HI_u.out.ext hx2) (HI_v.out.ext hx2)).mono ?_; rintro e w3 ⟨rfl, hx3⟩
    have hX3 := hx2.trans hx3
    go_wp2_with fail
    refine (Images_c _ _ _ m u w3 (HR.out.ext hX3) (HI_u.out.ext hX3)).mono ?_; rintro e w4 ⟨v4, rfl, hv4, hx4⟩
    have hX4 := hX3.trans hx4
    have HV4 : Hid (Rows w4 v4 _) := Lib.hid hv4; clear hv4
    go_wp2_with fail
    refine (Sources_c _ _ _ m v w4 (HR.out.ext hX4) (HI_v.out.ext hX4) (by omega) (by omega)).mono ?_; rintro e w5 ⟨v5, rfl, hv5, hx5⟩
    have hX5 := hX4.trans hx5
    have HV5 : Hid (Rows w5 v5 _) := Lib.hid hv5; clear hv5
    have HX5 := Lib.hid hx5
    clear hx3 hx4 hx5 hX3 hX4
    have HAG := Lib.hid (fun h1 h2 h3 => agrees (m := m) (u := u) (v := v) h1 h2 h3)
    generalize imagesL m u = L1 at *
    generalize imagesL (turnM m) v = L2 at *
    generalize imagesK m u = k1 at *
    generalize imagesK (turnM m) v = k2 at *
    generalize checkK m [u, v] = k0 at *
    generalize relatesB m u v = rb at *
    by_cases h0 : k0 = 0
    · subst h0
      by_cases h1 : k1 = 0
      · subst h1
        by_cases h2 : k2 = 0
        · subst h2
          obtain ⟨e1, e2⟩ := HAG.out rfl rfl rfl
          have HW1 := Lib.hid (hasWord_c _ _ L1 v w5 (Rows.ext HV4.out HX5.out) (HI_v.out.ext hX5))
          have HW2 := Lib.hid (fun W (hW : Ext w5 W) => hasWord_c _ _ L2 u W (Rows.ext HV5.out hW) (HI_u.out.ext (hX5.trans hW)))
          rw [e1] at HW1
          rw [e2] at HW2
          clear e1 e2 HAG
          have hbb : (rb == rb) = true := by simp
          go_wp2_with fail
          refine HW1.out.mono ?_; rintro e w6 ⟨rfl, hx6⟩
          go_wp2_with fail
          refine (HW2.out w6 hx6).mono ?_; rintro e w7 ⟨rfl, hx7⟩
          have hX7 := hX5.trans (hx6.trans hx7)
          go_wp2_with fail
          refine (sane_c _).mono ?_; rintro e wK ⟨rfl, hxK⟩
          go_wp2_with fail
          go_ret
          exact RV.bool rfl (hE0.trans (hX7.trans hxK))
        · have hk : (k2 != 0) = true := by simp [h2]
          clear h2 HAG
          go_wp2_with fail
          refine (sane_c _).mono ?_; rintro e wK ⟨rfl, hxK⟩
          go_wp2_with fail
          go_ret
          exact RV.bool rfl (hE0.trans (hX5.trans hxK))
      · have hk : (k1 != 0) = true := by simp [h1]
        clear h1 HAG
        go_wp2_with fail
        refine (sane_c _).mono ?_; rintro e wK ⟨rfl, hxK⟩
        go_wp2_with fail
        go_ret
        exact RV.bool rfl (hE0.trans (hX5.trans hxK))
    · have hk : (k0 != 0) = true := by simp [h0]
      clear h0 HAG
      go_wp2_with fail
      refine (sane_c _).mono ?_; rintro e wK ⟨rfl, hxK⟩
      go_wp2_with fail
      go_ret
      exact RV.bool rfl (hE0.trans (hX5.trans hxK))
  · go_enter Try.func9, Try.ntmps9
    go_wp2_with fail
    rw [← HW.out]
    refine HLG.out.mono ?_; rintro e w2 ⟨rfl, hx2⟩
    replace hx2 := hxL.trans hx2
    go_wp2_with fail
    refine (sane_c _).mono ?_; rintro e wK ⟨rfl, hxK⟩
    go_wp2_with fail
    go_ret
    exact RV.bool rfl (hE0.trans (hx2.trans hxK))
end Go.Proofs.Ytodhmkbkcjpnkaa
