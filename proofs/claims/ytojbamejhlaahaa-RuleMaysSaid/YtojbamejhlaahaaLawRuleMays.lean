/- RuleMays: for every input the call returns true. No condition. -/
import Derived.Test.YtojbamejhlaahaaLaw2
import Derived.Test.YtojbamejhlaahaaRulM
namespace Go.Proofs.Ytojbamejhlaahaa
open Go.RowKit Go.Shelf
set_option linter.unusedVariables false

set_option maxHeartbeats 2000000 in
set_option maxRecDepth 100000 in
theorem ruleMays_c (tv lv rv : Value) (x : Rul) (s n : Int) (w : World) (h : RulR w tv lv rv x) (_ : (Lit.int .i64 s).wf = true) (_ : (Lit.int .i64 n).wf = true) :
    Calls Try.prog 7 #[.agg #[.int .i64 x.f, tv, lv, rv], .int .i64 s, .int .i64 n] w (RV (.bool true) w) := by
  obtain ⟨wA, hwA⟩ : ∃ wA, wA = w.alloc (.cells #[.int .i64 x.f, tv, lv, rv] 24) := ⟨_, rfl⟩
  have hE0 : Ext w wA := by rw [hwA]; exact Ext.alloc _ _
  have k0 : ∀ W, Ext wA W → W.cell? ⟨w.heap.size, 0, none⟩ = some (.int .i64 x.f) := by rw [hwA]; exact kept_alloc w _ _ rfl
  have k1 : ∀ W, Ext wA W → W.cell? ⟨w.heap.size, 1, none⟩ = some tv := by rw [hwA]; exact kept_alloc w _ _ rfl
  have k2 : ∀ W, Ext wA W → W.cell? ⟨w.heap.size, 2, none⟩ = some lv := by rw [hwA]; exact kept_alloc w _ _ rfl
  have k3 : ∀ W, Ext wA W → W.cell? ⟨w.heap.size, 3, none⟩ = some rv := by rw [hwA]; exact kept_alloc w _ _ rfl
  have H0 : Ext wA wA := Ext.refl _
  have HR := Lib.hid (h.ext hE0)
  have HLG := Lib.hid (Long_c tv lv rv x wA (h.ext hE0))
  have HW := Lib.hid hwA; clear hwA h
  generalize longR x = b1 at *
  cases b1
  · go_enter Try.func7, Try.ntmps7
    go_wp2_with fail
    rw [← HW.out]
    refine HLG.out.mono ?_; rintro e w1 ⟨rfl, hx1⟩
    clear HLG
    have hx2 := hx1
    clear hx1
    go_wp2_with fail
    refine (May_c _ _ _ x s n w1 (HR.out.ext hx2)).mono ?_; rintro e w3 ⟨rfl, hy3⟩
    have hx3 := hx2.trans hy3
    go_wp2_with fail
    refine (rMay_c _ _ _ x s n w3 (HR.out.ext hx3)).mono ?_; rintro e w4 ⟨rfl, hy4⟩
    have hx4 := hx3.trans hy4
    generalize mayK x s n = K at *
    generalize mayV x s n = V at *
    go_wp2_with fail
    refine (known_c _).mono ?_; rintro e wK ⟨rfl, hxK⟩
    go_wp2_with fail
    go_ret
    exact RV.bool rfl (hE0.trans (hx4.trans hxK))
  · go_enter Try.func7, Try.ntmps7
    go_wp2_with fail
    rw [← HW.out]
    refine HLG.out.mono ?_; rintro e w1 ⟨rfl, hx1⟩
    go_wp2_with fail
    refine (known_c _).mono ?_; rintro e w3 ⟨rfl, hx3⟩
    go_wp2_with fail
    go_ret
    exact RV.bool rfl (hE0.trans (hx1.trans hx3))
end Go.Proofs.Ytojbamejhlaahaa

