/- RuleAlong: for every input the call returns true. No condition. -/
import Derived.Test.YtojbamejhlaahaaLaw2
import Derived.Test.YtojbamejhlaahaaRulP
namespace Go.Proofs.Ytojbamejhlaahaa
open Go.RowKit Go.Shelf
set_option linter.unusedVariables false
theorem sameInts_same (va vb : Value) (a : List Int) (w : World) (ha : Ints w va a) (hb : Ints w vb a) : Calls Try.prog 22 #[va, vb] w (RQ true w) := by have := sameInts_c va vb a a w ha hb; rwa [sameIntsB_refl] at this

set_option maxHeartbeats 2000000 in
set_option maxRecDepth 100000 in
theorem ruleAlong_c (tv lv rv : Value) (x : Rul) (wv : Value) (l : List Int) (w : World) (h : RulR w tv lv rv x) (hw : Ints w wv l) :
    Calls Try.prog 3 #[.agg #[.int .i64 x.f, tv, lv, rv], wv] w (RV (.bool true) w) := by
  obtain ⟨wA, hwA⟩ : ∃ wA, wA = w.alloc (.cells #[.int .i64 x.f, tv, lv, rv] 24) := ⟨_, rfl⟩
  have hE0 : Ext w wA := by rw [hwA]; exact Ext.alloc _ _
  have k0 : ∀ W, Ext wA W → W.cell? ⟨w.heap.size, 0, none⟩ = some (.int .i64 x.f) := by rw [hwA]; exact kept_alloc w _ _ rfl
  have k1 : ∀ W, Ext wA W → W.cell? ⟨w.heap.size, 1, none⟩ = some tv := by rw [hwA]; exact kept_alloc w _ _ rfl
  have k2 : ∀ W, Ext wA W → W.cell? ⟨w.heap.size, 2, none⟩ = some lv := by rw [hwA]; exact kept_alloc w _ _ rfl
  have k3 : ∀ W, Ext wA W → W.cell? ⟨w.heap.size, 3, none⟩ = some rv := by rw [hwA]; exact kept_alloc w _ _ rfl
  have H0 : Ext wA wA := Ext.refl _
  have HR := Lib.hid (h.ext hE0)
  have HLG := Lib.hid (Long_c tv lv rv x wA (h.ext hE0))
  have HI := Lib.hid (hw.ext hE0)
  have HLA := Lib.hid (fun W (hW : Ext wA W) => large_c wv l W (HI.out.ext hW))
  obtain ⟨aw, cw, rfl, _⟩ := hw.open_
  have hb2 : decide (100 < l.length) = false → l.length ≤ 100 := fun h => by simpa using h
  have HB2 := Lib.hid hb2; clear hb2
  obtain ⟨al, cl, rfl, _⟩ := h.l.open_
  obtain ⟨ar, cr, rfl, _⟩ := h.r.open_
  have HAA := Lib.hid (fun (hf : ¬ x.f < 0) (hl : x.l.length = 0) (hr : x.r.length = 0) => along_all (l := l) hf (List.length_eq_zero_iff.1 hl) (List.length_eq_zero_iff.1 hr))
  have HW := Lib.hid hwA; clear hwA h hw
  generalize longR x = b1 at *
  generalize decide (100 < l.length) = b2 at *
  cases b1
  · cases b2
    · have hll := HB2.out rfl
      go_enter Try.func3, Try.ntmps3
      go_wp2_with fail
      rw [← HW.out]
      refine HLG.out.mono ?_; rintro e w1 ⟨rfl, hx1⟩
      go_wp2_with fail
      refine (HLA.out w1 hx1).mono ?_; rintro e w2 ⟨rfl, hy2⟩
      have hx2 := hx1.trans hy2
      clear hx1 hy2
      clear HLA HLG HB2
      go_wp2_with fail
      refine (Along_c _ _ _ _ x l w2 (HR.out.ext hx2) (HI.out.ext hx2)).mono ?_; rintro e w3 ⟨v3, rfl, ho, hy3⟩
      have HI3 := Lib.hid ho.ints; clear ho
      have hx3 := hx2.trans hy3
      go_wp2_with fail
      refine (rAlong_c _ _ _ _ x l w3 (HR.out.ext hx3) (HI.out.ext hx3)).mono ?_; rintro e w4 ⟨v4, rfl, ho, hy4⟩
      have HI4 := Lib.hid ho.ints; clear ho
      have hx4 := hx3.trans hy4
      go_wp2_with fail
      refine (sameInts_same v3 v4 _ w4 (HI3.out.ext hy4) HI4.out).mono ?_; rintro e w5 ⟨rfl, n5, hw5⟩
      have hy5 : Ext w4 w5 := by rw [hw5]; exact Ext.drewN _ _
      clear hw5
      have hx5 := hx4.trans hy5
      go_wp2_with fail
      refine (AtAll_c _ _ _ _ x l w5 (HR.out.ext hx5) (HI.out.ext hx5)).mono ?_; rintro e w6 ⟨v6, rfl, ho, hy6⟩
      have HI6 := Lib.hid ho.ints; clear ho
      have hx6 := hx5.trans hy6
      by_cases hf : x.f < 0
      · generalize alongK x l = ka at *
        generalize atAllK x l = kb at *
        go_wp2_with fail
        go_wp2_with fail
        refine (known_c _).mono ?_; rintro e wK ⟨rfl, hxK⟩
        go_wp2_with fail
        go_ret
        exact RV.bool rfl (hE0.trans (hx6.trans hxK))
      · have HF := Lib.hid hf
        have hf' : ¬ x.f < (0 : Int) := hf
        clear hf
        by_cases hl : 0 < x.l.length
        · have hl' : (0 : Int) < x.l.length := by omega
          generalize alongK x l = ka at *
          generalize atAllK x l = kb at *
          go_wp2_with fail
          go_wp2_with fail
          refine (known_c _).mono ?_; rintro e wK ⟨rfl, hxK⟩
          go_wp2_with fail
          go_ret
          exact RV.bool rfl (hE0.trans (hx6.trans hxK))
        · have hl' : x.l.length = 0 := by omega
          by_cases hr : 0 < x.r.length
          · have hr' : (0 : Int) < x.r.length := by omega
            generalize alongK x l = ka at *
            generalize atAllK x l = kb at *
            go_wp2_with fail
            go_wp2_with fail
            refine (known_c _).mono ?_; rintro e wK ⟨rfl, hxK⟩
            go_wp2_with fail
            go_ret
            exact RV.bool rfl (hE0.trans (hx6.trans hxK))
          · have hr' : x.r.length = 0 := by omega
            obtain ⟨he1, he2⟩ := HAA.out (by have := HF.out; omega) hl' hr'
            rw [← he2] at HI6
            rw [← he1]
            clear he1 he2
            generalize alongK x l = ka at *
            go_wp2_with fail
            refine (sameInts_same v3 v6 _ w6 ((HI3.out.ext (hy4.trans (hy5.trans hy6)))) HI6.out).mono ?_; rintro e w7 ⟨rfl, n7, hw7⟩
            have hy7 : Ext w6 w7 := by rw [hw7]; exact Ext.drewN _ _
            clear hw7
            have hx7 := hx6.trans hy7
            go_wp2_with fail
            refine (known_c _).mono ?_; rintro e wK ⟨rfl, hxK⟩
            go_wp2_with fail
            go_ret
            exact RV.bool rfl (hE0.trans (hx7.trans hxK))
    · go_enter Try.func3, Try.ntmps3
      go_wp2_with fail
      rw [← HW.out]
      refine HLG.out.mono ?_; rintro e w1 ⟨rfl, hx1⟩
      go_wp2_with fail
      refine (HLA.out w1 hx1).mono ?_; rintro e w2 ⟨rfl, hy2⟩
      have hx2 := hx1.trans hy2
      clear hx1 hy2
      go_wp2_with fail
      refine (known_c _).mono ?_; rintro e w3 ⟨rfl, hx3⟩
      go_wp2_with fail
      go_ret
      exact RV.bool rfl (hE0.trans (hx2.trans hx3))
  · go_enter Try.func3, Try.ntmps3
    go_wp2_with fail
    rw [← HW.out]
    refine HLG.out.mono ?_; rintro e w1 ⟨rfl, hx1⟩
    go_wp2_with fail
    refine (known_c _).mono ?_; rintro e w3 ⟨rfl, hx3⟩
    go_wp2_with fail
    go_ret
    exact RV.bool rfl (hE0.trans (hx1.trans hx3))
end Go.Proofs.Ytojbamejhlaahaa

