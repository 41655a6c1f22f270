/- MachineFunctions: for every input the call returns true. No condition. -/
import Derived.Test.YtodhmkbkcjpnkaaMacS
import Derived.Test.YtodhmkbkcjpnkaaMacP
import Derived.Test.YtodhmkbkcjpnkaaMacR
namespace Go.Proofs.Ytodhmkbkcjpnkaa
open Go.RowKit Go.Shelf
set_option linter.unusedVariables false

theorem two_checks {m : Mac} (h : validM m = 0) (ht : twoB m = true) : checkTwoK m (twoL m Lst.i) (twoL m Lst.u) (twoL m Lst.v) = 0 := by
  unfold twoB at ht
  rw [if_pos h] at ht
  obtain ⟨p, hp⟩ := Option.isSome_iff_exists.1 ht
  have := two_ok (validM_mac h) (d := p.1) (q := p.2) hp
  rw [if_pos h] at this
  unfold twoL
  simp only [if_pos h, hp, Option.map_some, Option.getD_some]
  exact this
theorem two_none {m : Mac} (ht : twoB m = false) (f : Lst → Int) : twoL m f = [] := by
  unfold twoB at ht
  unfold twoL
  split
  · rename_i h
    rw [if_pos h] at ht
    have : bfsM m = none := by simpa using ht
    rw [this]; rfl
  · rfl
theorem two_fun {m : Mac} (h : validM m = 0) : isFunB m = !twoB m := by
  unfold isFunB twoB
  rw [if_pos h, if_pos h]
  cases bfsM m <;> rfl
theorem two_bad {m : Mac} (h : validM m ≠ 0) : isFunB m = false ∧ twoB m = false := by
  unfold isFunB twoB
  rw [if_neg h, if_neg h]; exact ⟨rfl, rfl⟩

set_option maxHeartbeats 4000000 in
set_option maxRecDepth 100000 in
theorem machineFunctions_c (av ev : Value) (m : Mac) (w : World) (h : MacR w av ev m) :
    Calls Try.prog 5 #[.agg #[.int .i64 m.s, av, ev]] w (RV (.bool true) w) := by
  obtain ⟨wA, hwA⟩ : ∃ wA, wA = w.alloc (.cells #[.int .i64 m.s, av, ev] 25) := ⟨_, rfl⟩
  have hE0 : Ext w wA := by rw [hwA]; exact Ext.alloc _ _
  have k0 : ∀ W, Ext wA W → W.cell? ⟨w.heap.size, 0, none⟩ = some (.int .i64 m.s) := by rw [hwA]; exact kept_alloc w _ _ rfl
  have k1 : ∀ W, Ext wA W → W.cell? ⟨w.heap.size, 1, none⟩ = some av := by rw [hwA]; exact kept_alloc w _ _ rfl
  have k2 : ∀ W, Ext wA W → W.cell? ⟨w.heap.size, 2, none⟩ = some ev := by rw [hwA]; exact kept_alloc w _ _ rfl
  have H0 : Ext wA wA := Ext.refl _
  have HR := Lib.hid (h.ext hE0)
  obtain ⟨aa, ca, rfl, hla, hma, HA⟩ := (h.ext hE0).a.open_
  obtain ⟨ae, ce, rfl, hle, hme, HE⟩ := (h.ext hE0).e.open_
  have HLG := Lib.hid (Long_c _ _ _ m [] wA HR.out (Rows.nil wA))
  have hxL := Ext.refl wA
  have HW := Lib.hid hwA; clear hwA h
  have HLB := Lib.hid (longM_bd (m := m) (ls := []))
  generalize longM m [] = b1 at *
  cases b1
  · have HLB2 := HLB.out rfl
    clear HLB
    go_enter Try.func5, Try.ntmps5
    go_wp2_with fail
    rw [← HW.out]
    refine HLG.out.mono ?_; rintro e w2 ⟨rfl, hx2⟩
    replace hx2 := hxL.trans hx2
    clear HLG
    go_wp2_with fail
    refine (IsFunction_c _ _ m w2 (HR.out.ext hx2)).mono ?_; rintro e w3 ⟨rfl, hx3⟩
    have hX3 := hx2.trans hx3
    go_wp2_with fail
    refine (rIsFunction_c _ _ m w3 (HR.out.ext hX3)).mono ?_; rintro e w4 ⟨rfl, hx4⟩
    have hX4 := hX3.trans hx4
    go_wp2_with fail
    refine (Two_c _ _ m w4 (HR.out.ext hX4)).mono ?_; rintro e w5 ⟨v1, v2, v3, rfl, hx5, hi1, hi2, hi3⟩
    have hX5 := hX4.trans hx5
    clear hx3 hx4 hx5 hX3 hX4
    obtain ⟨b1, d1, rfl, _⟩ := hi1.open_
    obtain ⟨b2, d2, rfl, _⟩ := hi2.open_
    obtain ⟨b3, d3, rfl, _⟩ := hi3.open_
    by_cases h0 : validM m = 0
    · have HF : Hid (isFunB m = !twoB m) := Lib.hid (two_fun h0)
      have HTN := Lib.hid (two_none (m := m))
      have HTC := Lib.hid (two_checks (m := m) h0)
      rw [h0, HF.out]
      clear HF
      generalize hb : twoB m = b at *
      clear hb
      cases b
      · rw [HTN.out rfl, HTN.out rfl, HTN.out rfl] at *
        go_wp2_with fail
        refine (sane_c _).mono ?_; rintro e wK ⟨rfl, hxK⟩
        go_wp2_with fail
        go_ret
        exact RV.bool rfl (hE0.trans (hX5.trans hxK))
      · have HCT := Lib.hid (rCheckTwo_c _ _ _ _ _ m _ _ _ w5 (HR.out.ext hX5) hi1 hi2 hi3)
        rw [HTC.out rfl] at HCT
        clear hi1 hi2 hi3 h0 HTN HTC
        go_wp2_with fail
        refine HCT.out.mono ?_; rintro e w6 ⟨rfl, hx6⟩
        have hX6 := hX5.trans hx6
        go_wp2_with fail
        refine (sane_c _).mono ?_; rintro e wK ⟨rfl, hxK⟩
        go_wp2_with fail
        go_ret
        exact RV.bool rfl (hE0.trans (hX6.trans hxK))
    · have hk : (validM m != 0) = true := by simp [h0]
      rw [(two_bad h0).1, (two_bad h0).2]
      generalize validM m = k at *
      clear h0
      go_wp2_with fail
      refine (sane_c _).mono ?_; rintro e wK ⟨rfl, hxK⟩
      go_wp2_with fail
      go_ret
      exact RV.bool rfl (hE0.trans (hX5.trans hxK))
  · go_enter Try.func5, Try.ntmps5
    go_wp2_with fail
    rw [← HW.out]
    refine HLG.out.mono ?_; rintro e w2 ⟨rfl, hx2⟩
    replace hx2 := hxL.trans hx2
    go_wp2_with fail
    refine (sane_c _).mono ?_; rintro e wK ⟨rfl, hxK⟩
    go_wp2_with fail
    go_ret
    exact RV.bool rfl (hE0.trans (hx2.trans hxK))
end Go.Proofs.Ytodhmkbkcjpnkaa
