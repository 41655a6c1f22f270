/- MachineChecks: for every input the call returns true. No condition. -/
import Derived.Test.YtodhmkbkcjpnkaaMacS
import Derived.Test.YtodhmkbkcjpnkaaMacChk
import Derived.Test.YtodhmkbkcjpnkaaMacCl
namespace Go.Proofs.Ytodhmkbkcjpnkaa
open Go.RowKit Go.Shelf
set_option linter.unusedVariables false

set_option maxHeartbeats 4000000 in
set_option maxRecDepth 100000 in
theorem machineChecks_c (av ev : Value) (m : Mac) (xv uv vv : Value) (x u v : List Int) (w : World) (h : MacR w av ev m) (hx : Ints w xv x) (hu : Ints w uv u) (hv : Ints w vv v) :
    Calls Try.prog 10 #[.agg #[.int .i64 m.s, av, ev], .agg #[xv, uv, vv]] w (RV (.bool true) w) := by
  obtain ⟨aa, ca, rfl, hla, hma, HA⟩ := h.a.open_
  obtain ⟨ae, ce, rfl, hle, hme, HE⟩ := h.e.open_
  obtain ⟨ax, cx, rfl, _, _, _⟩ := hx.open_
  obtain ⟨au, cu, rfl, _, _, _⟩ := hu.open_
  obtain ⟨av, cv, rfl, _, _, _⟩ := hv.open_
  obtain ⟨wA, hwA⟩ : ∃ wA, wA = (w.alloc (.cells #[.int .i64 m.s, .slice aa m.a.length ca, .slice ae m.e.length ce] 25)).alloc (.cells #[.slice ax x.length cx, .slice au u.length cu, .slice av v.length cv] 58) := ⟨_, rfl⟩
  have hE0 : Ext w wA := by rw [hwA]; exact (Ext.alloc _ _).trans (Ext.alloc _ _)
  have hb1 : Blk wA w.heap.size 25 [.int .i64 m.s, .slice aa m.a.length ca, .slice ae m.e.length ce] := by rw [hwA]; exact (Blk.alloc w _ _).ext (Ext.alloc _ _)
  have hb2 : Blk wA (w.heap.size + 1) 58 [.slice ax x.length cx, .slice au u.length cu, .slice av v.length cv] := by
    rw [hwA]
    have := Blk.alloc (w.alloc (.cells #[.int .i64 m.s, .slice aa m.a.length ca, .slice ae m.e.length ce] 25)) #[.slice ax x.length cx, .slice au u.length cu, .slice av v.length cv] 58
    simpa using this
  have k0 : ∀ W, Ext wA W → W.cell? ⟨w.heap.size, 0, none⟩ = some (.int .i64 m.s) := fun W hW => hW.keep (hb1.cell (i := 0) rfl)
  have k1 : ∀ W, Ext wA W → W.cell? ⟨w.heap.size, 1, none⟩ = some (.slice aa m.a.length ca) := fun W hW => hW.keep (hb1.cell (i := 1) rfl)
  have k2 : ∀ W, Ext wA W → W.cell? ⟨w.heap.size, 2, none⟩ = some (.slice ae m.e.length ce) := fun W hW => hW.keep (hb1.cell (i := 2) rfl)
  have j0 : ∀ W, Ext wA W → W.cell? ⟨w.heap.size + 1, 0, none⟩ = some (.slice ax x.length cx) := fun W hW => hW.keep (hb2.cell (i := 0) rfl)
  have j1 : ∀ W, Ext wA W → W.cell? ⟨w.heap.size + 1, 1, none⟩ = some (.slice au u.length cu) := fun W hW => hW.keep (hb2.cell (i := 1) rfl)
  have j2 : ∀ W, Ext wA W → W.cell? ⟨w.heap.size + 1, 2, none⟩ = some (.slice av v.length cv) := fun W hW => hW.keep (hb2.cell (i := 2) rfl)
  have H0 := Ext.refl wA
  have HR := Lib.hid (h.ext hE0)
  have HIX := Lib.hid (hx.ext hE0)
  have HIU := Lib.hid (hu.ext hE0)
  have HIV := Lib.hid (hv.ext hE0)
  have hxL := Ext.alloc wA (.cells #[.slice ax x.length cx, .slice au u.length cu, .slice av v.length cv] 23)
  have HLG := Lib.hid (by have := Long_c _ _ _ m [x, u, v] _ (HR.out.ext hxL) (rows_new wA [.slice ax x.length cx, .slice au u.length cu, .slice av v.length cv] [x, u, v] (AllInts.cons HIX.out (AllInts.cons HIU.out (AllInts.cons HIV.out (AllInts.nil _)))) (by simp)); rw [show wA.heap.size = w.heap.size + 1 + 1 by rw [hwA]; simp] at this; exact this)
  have HW := Lib.hid hwA; clear hwA h hx hu hv hb1 hb2
  have HLB := Lib.hid (longM_bd (m := m) (ls := [x, u, v]))
  generalize longM m [x, u, v] = b1 at *
  cases b1
  · have HLB2 := HLB.out rfl
    clear HLB
    go_enter Try.func10, Try.ntmps10
    go_wp2_with fail
    rw [← HW.out]
    refine HLG.out.mono ?_; rintro e w2 ⟨rfl, hx2⟩
    replace hx2 := hxL.trans hx2
    clear HLG
    have HF := Lib.hid (fun h => check_fun (m := m) (w := x) (u := u) (v := v) h)
    have HC1 := Lib.hid (CheckTwo_c _ _ _ _ _ m x u v w2 (HR.out.ext hx2) (HIX.out.ext hx2) (HIU.out.ext hx2) (HIV.out.ext hx2) (by omega))
    have HC2 := Lib.hid (fun W (hW : Ext wA W) => rCheckTwo_c _ _ _ _ _ m x u v W (HR.out.ext hW) (HIX.out.ext hW) (HIU.out.ext hW) (HIV.out.ext hW))
    have HIF := Lib.hid (fun W (hW : Ext wA W) => IsFunction_c _ _ m W (HR.out.ext hW))
    generalize checkTwoK m x u v = k at *
    have hkk : (k != k) = false := by simp
    go_wp2_with fail
    refine HC1.out.mono ?_; rintro e w3 ⟨rfl, hx3⟩
    have hX3 := hx2.trans hx3
    go_wp2_with fail
    refine (HC2.out w3 hX3).mono ?_; rintro e w4 ⟨rfl, hx4⟩
    have hX4 := hX3.trans hx4
    by_cases h0 : k = 0
    · subst h0
      obtain ⟨hf1, hf2⟩ := HF.out rfl
      rw [hf1, hf2] at HIF
      clear hf1 hf2 HF
      go_wp2_with fail
      refine (HIF.out w4 hX4).mono ?_; rintro e w5 ⟨rfl, hx5⟩
      have hX5 := hX4.trans hx5
      go_wp2_with fail
      refine (sane_c _).mono ?_; rintro e wK ⟨rfl, hxK⟩
      go_wp2_with fail
      go_ret
      exact RV.bool rfl (hE0.trans (hX5.trans hxK))
    · have hk : (k != 0) = true := by simp [h0]
      clear h0 HF
      generalize isFunB m = fb at *
      generalize validM m = vk at *
      go_wp2_with fail
      refine (HIF.out w4 hX4).mono ?_; rintro e w5 ⟨rfl, hx5⟩
      have hX5 := hX4.trans hx5
      go_wp2_with fail
      refine (sane_c _).mono ?_; rintro e wK ⟨rfl, hxK⟩
      go_wp2_with fail
      go_ret
      exact RV.bool rfl (hE0.trans (hX5.trans hxK))
  · go_enter Try.func10, Try.ntmps10
    go_wp2_with fail
    rw [← HW.out]
    refine HLG.out.mono ?_; rintro e w2 ⟨rfl, hx2⟩
    replace hx2 := hxL.trans hx2
    go_wp2_with fail
    refine (sane_c _).mono ?_; rintro e wK ⟨rfl, hxK⟩
    go_wp2_with fail
    go_ret
    exact RV.bool rfl (hE0.trans (hx2.trans hxK))
end Go.Proofs.Ytodhmkbkcjpnkaa
