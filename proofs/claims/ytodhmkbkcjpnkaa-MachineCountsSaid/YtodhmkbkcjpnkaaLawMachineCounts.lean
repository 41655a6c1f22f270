/- MachineCounts: for every input the call returns true. No condition. -/
import Derived.Test.YtodhmkbkcjpnkaaMacS
namespace Go.Proofs.Ytodhmkbkcjpnkaa
open Go.RowKit Go.Shelf
set_option linter.unusedVariables false

set_option maxHeartbeats 4000000 in
set_option maxRecDepth 100000 in
theorem machineCounts_c (av ev : Value) (m : Mac) (i : Int) (w : World) (h : MacR w av ev m) (hi : (Lit.int .i64 i).wf = true) :
    Calls Try.prog 3 #[.agg #[.int .i64 m.s, av, ev], .int .i64 i] w (RV (.bool true) w) := by
  obtain ⟨wA, hwA⟩ : ∃ wA, wA = w.alloc (.cells #[.int .i64 m.s, av, ev] 25) := ⟨_, rfl⟩
  have hE0 : Ext w wA := by rw [hwA]; exact Ext.alloc _ _
  have k0 : ∀ W, Ext wA W → W.cell? ⟨w.heap.size, 0, none⟩ = some (.int .i64 m.s) := by rw [hwA]; exact kept_alloc w _ _ rfl
  have k1 : ∀ W, Ext wA W → W.cell? ⟨w.heap.size, 1, none⟩ = some av := by rw [hwA]; exact kept_alloc w _ _ rfl
  have k2 : ∀ W, Ext wA W → W.cell? ⟨w.heap.size, 2, none⟩ = some ev := by rw [hwA]; exact kept_alloc w _ _ rfl
  have H0 : Ext wA wA := Ext.refl _
  have HR := Lib.hid (h.ext hE0)
  obtain ⟨aa, ca, rfl, hla, hma, HA⟩ := (h.ext hE0).a.open_
  obtain ⟨ae, ce, rfl, hle, hme, HE⟩ := (h.ext hE0).e.open_
  have HLG := Lib.hid (Long_c _ _ _ m [] wA HR.out (Rows.nil wA))
  have hxL := Ext.refl wA
  have HW := Lib.hid hwA; clear hwA h
  have HLB := Lib.hid (longM_bd (m := m) (ls := []))
  generalize longM m [] = b1 at *
  cases b1
  · have HLB2 := HLB.out rfl
    clear HLB
    go_enter Try.func3, Try.ntmps3
    go_wp2_with fail
    rw [← HW.out]
    refine HLG.out.mono ?_; rintro e w2 ⟨rfl, hx2⟩
    replace hx2 := hxL.trans hx2
    clear HLG
    go_wp2_with fail
    refine (Count_c _ _ m i w2 (HR.out.ext hx2) hi).mono ?_; rintro e w3 ⟨rfl, hx3⟩
    replace hx3 := hx2.trans hx3
    go_wp2_with fail
    refine (rCount_c _ _ m i w3 (HR.out.ext hx3) hi).mono ?_; rintro e w4 ⟨rfl, hx4⟩
    replace hx4 := hx3.trans hx4
    generalize countV m i = a at *
    generalize countK m i = b at *
    have h1 : (a == a) = true := by simp
    have h2 : (b == b) = true := by simp
    go_wp2_with fail
    refine (sane_c _).mono ?_; rintro e wK ⟨rfl, hxK⟩
    go_wp2_with fail
    go_ret
    exact RV.bool rfl (hE0.trans (hx4.trans hxK))
  · go_enter Try.func3, Try.ntmps3
    go_wp2_with fail
    rw [← HW.out]
    refine HLG.out.mono ?_; rintro e w2 ⟨rfl, hx2⟩
    replace hx2 := hxL.trans hx2
    go_wp2_with fail
    refine (sane_c _).mono ?_; rintro e wK ⟨rfl, hxK⟩
    go_wp2_with fail
    go_ret
    exact RV.bool rfl (hE0.trans (hx2.trans hxK))
end Go.Proofs.Ytodhmkbkcjpnkaa
