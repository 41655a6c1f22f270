/- RuleMeasures: for every input the call returns true. No condition. -/
import Derived.Test.YtojbamejhlaahaaLaw2
import Derived.Test.YtojbamejhlaahaaRulO
namespace Go.Proofs.Ytojbamejhlaahaa
open Go.RowKit Go.Shelf
set_option linter.unusedVariables false
theorem longR_mir {x : Rul} (h : longR x = false) : longR (mirX x) = false := by
  obtain ⟨h1, h2, h3⟩ := longR_le h
  unfold mirX longR
  split <;> simp <;> omega
theorem sndB_all (l : List Int) : sndB l = l.all fun n => inB n 0 5 := by
  unfold sndB allB
  rw [Bool.eq_iff_iff, List.all_eq_true, List.all_eq_true]
  constructor
  · intro h n hn
    obtain ⟨i, hi, rfl⟩ := List.mem_iff_getElem.1 hn
    have := h i (by simpa using hi)
    simpa [hi] using this
  · intro h i hi
    have hi : i < l.length := by simpa using hi
    simpa [hi] using h _ (List.getElem_mem hi)
theorem valid_mir {x : Rul} (h : validR x = 0) : mirX x = ⟨x.f, x.t.reverse, x.r, x.l⟩ ∧ validR (mirX x) = 0 := by
  have hm : mirX x = ⟨x.f, x.t.reverse, x.r, x.l⟩ := by rw [mirX, if_pos h]
  refine ⟨hm, ?_⟩
  rw [hm]
  have hb : badB ⟨x.f, x.t.reverse, x.r, x.l⟩ = badB x := by
    simp only [badB, List.length_reverse]
    congr 1
    rw [Bool.eq_iff_iff, beq_iff_eq, beq_iff_eq]
    constructor
    · intro h; have := congrArg List.reverse h; simpa using this
    · intro h; rw [h]; rfl
  have hs : sndB x.t.reverse = sndB x.t := by rw [sndB_all, sndB_all, List.all_reverse]
  rw [validR, hb, List.length_reverse, hs, Bool.and_assoc, Bool.and_comm (setB x.r), ← Bool.and_assoc]
  exact h
theorem meas_mir {x : Rul} (h : validR x = 0) : measV (mirX x) = measV x := by
  obtain ⟨h1, h2⟩ := valid_mir h
  rw [measV, if_pos h2, measV, if_pos h, h1]
  simp only [List.length_reverse, lng]; omega

set_option maxHeartbeats 2000000 in
set_option maxRecDepth 100000 in
theorem ruleMeasures_c (tv lv rv : Value) (x : Rul) (w : World) (h : RulR w tv lv rv x) :
    Calls Try.prog 8 #[.agg #[.int .i64 x.f, tv, lv, rv]] w (RV (.bool true) w) := by
  obtain ⟨wA, hwA⟩ : ∃ wA, wA = w.alloc (.cells #[.int .i64 x.f, tv, lv, rv] 24) := ⟨_, rfl⟩
  have hE0 : Ext w wA := by rw [hwA]; exact Ext.alloc _ _
  have k0 : ∀ W, Ext wA W → W.cell? ⟨w.heap.size, 0, none⟩ = some (.int .i64 x.f) := by rw [hwA]; exact kept_alloc w _ _ rfl
  have k1 : ∀ W, Ext wA W → W.cell? ⟨w.heap.size, 1, none⟩ = some tv := by rw [hwA]; exact kept_alloc w _ _ rfl
  have k2 : ∀ W, Ext wA W → W.cell? ⟨w.heap.size, 2, none⟩ = some lv := by rw [hwA]; exact kept_alloc w _ _ rfl
  have k3 : ∀ W, Ext wA W → W.cell? ⟨w.heap.size, 3, none⟩ = some rv := by rw [hwA]; exact kept_alloc w _ _ rfl
  have H0 : Ext wA wA := Ext.refl _
  have HR := Lib.hid (h.ext hE0)
  have HLG := Lib.hid (Long_c tv lv rv x wA (h.ext hE0))
  have HW := Lib.hid hwA; clear hwA h
  generalize hb1 : longR x = b1 at *
  have HB := Lib.hid hb1; clear hb1
  cases b1
  · go_enter Try.func8, Try.ntmps8
    go_wp2_with fail
    rw [← HW.out]
    refine HLG.out.mono ?_; rintro e w1 ⟨rfl, hx1⟩
    clear HLG
    have hx2 := hx1
    clear hx1
    go_wp2_with fail
    refine (Measure_c _ _ _ x w1 (HR.out.ext hx2) HB.out).mono ?_; rintro e w3 ⟨rfl, hy3⟩
    have hx3 := hx2.trans hy3
    go_wp2_with fail
    refine (rMeasure_c _ _ _ x w3 (HR.out.ext hx3) HB.out).mono ?_; rintro e w4 ⟨rfl, hy4⟩
    have hx4 := hx3.trans hy4
    generalize hV : measV x = V at *
    generalize hK : validR x = K at *
    have HV := Lib.hid hV; have HK := Lib.hid hK
    clear hV hK
    go_wp2_with fail
    refine (Mirror_c _ _ _ x w4 (HR.out.ext hx4) HB.out).mono ?_; rw [HK.out]; rintro e w5 ⟨tv5, lv5, rv5, rfl, hr5, hy5⟩
    have hx5 := hx4.trans hy5
    obtain ⟨a5, c5, rfl, _⟩ := hr5.t.open_
    obtain ⟨a6, c6, rfl, _⟩ := hr5.l.open_
    obtain ⟨a7, c7, rfl, _⟩ := hr5.r.open_
    have HR5 := Lib.hid hr5; clear hr5
    have HLM := Lib.hid (longR_mir HB.out)
    by_cases h0 : K = 0
    · subst h0
      have hm1 := meas_mir HK.out
      rw [HV.out] at hm1
      have HM1 := Lib.hid hm1
      have HM2 := Lib.hid (valid_mir HK.out).2
      clear hm1
      generalize mirX x = y at *
      clear HV HK
      go_wp2_with fail
      refine (Measure_c _ _ _ y _ (HR5.out.ext (Ext.alloc _ _)) HLM.out).mono ?_; rw [HM1.out, HM2.out]; rintro e w6 ⟨rfl, hy6⟩
      go_wp2_with fail
      refine (known_c _).mono ?_; rintro e wK ⟨rfl, hxK⟩
      go_wp2_with fail
      go_ret
      exact RV.bool rfl (hE0.trans (hx5.trans ((Ext.alloc _ _).trans (hy6.trans hxK))))
    · have hkd : (K != 0) = true := by simp [h0]
      clear h0 HV HK
      generalize mirX x = y at *
      go_wp2_with fail
      refine (Measure_c _ _ _ y _ (HR5.out.ext (Ext.alloc _ _)) HLM.out).mono ?_
      generalize measV y = V2
      generalize validR y = K2
      rintro e w6 ⟨rfl, hy6⟩
      go_wp2_with fail
      refine (known_c _).mono ?_; rintro e wK ⟨rfl, hxK⟩
      go_wp2_with fail
      go_ret
      exact RV.bool rfl (hE0.trans (hx5.trans ((Ext.alloc _ _).trans (hy6.trans hxK))))
  · go_enter Try.func8, Try.ntmps8
    go_wp2_with fail
    rw [← HW.out]
    refine HLG.out.mono ?_; rintro e w1 ⟨rfl, hx1⟩
    go_wp2_with fail
    refine (known_c _).mono ?_; rintro e w3 ⟨rfl, hx3⟩
    go_wp2_with fail
    go_ret
    exact RV.bool rfl (hE0.trans (hx1.trans hx3))
end Go.Proofs.Ytojbamejhlaahaa

