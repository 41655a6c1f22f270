/- RuleGains: for every input the call returns true. No condition. -/
import Derived.Test.YtojbamejhlaahaaLaw2
import Derived.Test.YtojbamejhlaahaaTwoD
namespace Go.Proofs.Ytojbamejhlaahaa
open Go.RowKit Go.Shelf
set_option linter.unusedVariables false
theorem gain_zero {x y : Rul} {l : List Int} {i : Int} (h : gainK x y l i = 0) : applyK x l i = 0 ∧ plK y l = 0 ∧ plK y (applyL x l i) = 0 ∧ gainV x y l i = ((plL y (applyL x l i)).length : Int) - (plL y l).length := by
  unfold gainK at h
  split at h
  · rename_i h2
    obtain ⟨hw, hl8, hsn⟩ := apply_zero h
    obtain ⟨_, h8, hs⟩ := wordK_zero hw
    have hy : validR y = 0 := by
      unfold twoK at h2; split at h2
      · exact h2
      · rename_i h1; exact absurd h2 h1
    have e1 : wordK y l = 0 := by rw [wordK, if_pos hy, validW, if_neg (by omega), hs]; rfl
    have e2 : wordK y (applyL x l i) = 0 := by rw [wordK, if_pos hy, validW, if_neg (by omega), hsn]; rfl
    exact ⟨h, e1, e2, by rw [gainV, if_pos h2, if_pos h, plL, plL, if_pos e1, if_pos e2]⟩
  · rename_i h2; exact absurd h h2
theorem plL_le (x : Rul) (l : List Int) : (plL x l).length ≤ l.length + 1 := by
  unfold plL; split
  · exact places_le x l
  · simp

set_option maxHeartbeats 2000000 in
set_option maxRecDepth 100000 in
theorem ruleGains_c (tv lv rv tu lu ru : Value) (x y : Rul) (wv : Value) (l : List Int) (i : Int) (w : World) (hr : RulR w tv lv rv x) (hs : RulR w tu lu ru y) (hw : Ints w wv l) (hi : (Lit.int .i64 i).wf = true) :
    Calls Try.prog 13 #[.agg #[.int .i64 x.f, tv, lv, rv, .int .i64 y.f, tu, lu, ru], wv, .int .i64 i] w (RV (.bool true) w) := by
  obtain ⟨a1, c1, rfl, _⟩ := hr.t.open_
  obtain ⟨a2, c2, rfl, _⟩ := hr.l.open_
  obtain ⟨a3, c3, rfl, _⟩ := hr.r.open_
  obtain ⟨a4, c4, rfl, _⟩ := hs.t.open_
  obtain ⟨a5, c5, rfl, _⟩ := hs.l.open_
  obtain ⟨a6, c6, rfl, _⟩ := hs.r.open_
  obtain ⟨wA, hwA⟩ : ∃ wA, wA = w.alloc (.cells #[.int .i64 x.f, .slice a1 x.t.length c1, .slice a2 x.l.length c2, .slice a3 x.r.length c3, .int .i64 y.f, .slice a4 y.t.length c4, .slice a5 y.l.length c5, .slice a6 y.r.length c6] 45) := ⟨_, rfl⟩
  have hE0 : Ext w wA := by rw [hwA]; exact Ext.alloc _ _
  have k0 : ∀ W, Ext wA W → W.cell? ⟨w.heap.size, 0, none⟩ = some (.int .i64 x.f) := by rw [hwA]; exact kept_alloc w _ _ rfl
  have k1 : ∀ W, Ext wA W → W.cell? ⟨w.heap.size, 1, none⟩ = some (.slice a1 x.t.length c1) := by rw [hwA]; exact kept_alloc w _ _ rfl
  have k2 : ∀ W, Ext wA W → W.cell? ⟨w.heap.size, 2, none⟩ = some (.slice a2 x.l.length c2) := by rw [hwA]; exact kept_alloc w _ _ rfl
  have k3 : ∀ W, Ext wA W → W.cell? ⟨w.heap.size, 3, none⟩ = some (.slice a3 x.r.length c3) := by rw [hwA]; exact kept_alloc w _ _ rfl
  have k4 : ∀ W, Ext wA W → W.cell? ⟨w.heap.size, 4, none⟩ = some (.int .i64 y.f) := by rw [hwA]; exact kept_alloc w _ _ rfl
  have k5 : ∀ W, Ext wA W → W.cell? ⟨w.heap.size, 5, none⟩ = some (.slice a4 y.t.length c4) := by rw [hwA]; exact kept_alloc w _ _ rfl
  have k6 : ∀ W, Ext wA W → W.cell? ⟨w.heap.size, 6, none⟩ = some (.slice a5 y.l.length c5) := by rw [hwA]; exact kept_alloc w _ _ rfl
  have k7 : ∀ W, Ext wA W → W.cell? ⟨w.heap.size, 7, none⟩ = some (.slice a6 y.r.length c6) := by rw [hwA]; exact kept_alloc w _ _ rfl
  have H0 : Ext wA wA := Ext.refl _
  have HX := Lib.hid (hr.ext hE0)
  have HY := Lib.hid (hs.ext hE0)
  have HLG := Lib.hid (Long_c _ _ _ x wA HX.out)
  have HLH := Lib.hid (fun W (hW : Ext wA W) => Long_c _ _ _ y W (HY.out.ext hW))
  have HI := Lib.hid (hw.ext hE0)
  obtain ⟨aw, cw, rfl, _⟩ := hw.open_
  have HWF := Lib.hid hi; clear hi
  have HLA := Lib.hid (fun W (hW : Ext wA W) => large_c _ l W (HI.out.ext hW))
  have hb2 : decide (100 < l.length) = false → l.length ≤ 100 := fun h => by simpa using h
  have HB2 := Lib.hid hb2; clear hb2
  have HW := Lib.hid hwA; clear hwA hr hs hw
  generalize hb1 : longR x = b1 at *
  have HBX := Lib.hid hb1; clear hb1
  generalize hb1 : longR y = b2 at *
  have HBY := Lib.hid hb1; clear hb1
  generalize decide (100 < l.length) = b3 at *
  cases b1
  · cases b2
    · cases b3
      · have hll := HB2.out rfl
        go_enter Try.func13, Try.ntmps13
        go_wp2_with fail
        rw [← HW.out]
        refine HLG.out.mono ?_; rintro e w1 ⟨rfl, hx1⟩
        go_wp2_with fail
        refine (HLH.out w1 hx1).mono ?_; rintro e wM ⟨rfl, hy2⟩
        have hx2 := hx1.trans hy2
        clear hx1 hy2
        go_wp2_with fail
        refine (HLA.out wM hx2).mono ?_; rintro e w2 ⟨rfl, hy2⟩
        replace hx2 := hx2.trans hy2
        clear hy2
        clear HLA
        go_wp2_with fail
        refine (Gain_c _ _ _ _ _ _ x y _ l i w2 (HX.out.ext hx2) (HY.out.ext hx2) (HI.out.ext hx2)).mono ?_; rintro e w3 ⟨rfl, hy3⟩
        have hx3 := hx2.trans hy3
        go_wp2_with fail
        refine (rGain_c _ _ _ _ _ _ x y _ l i w3 (HX.out.ext hx3) (HY.out.ext hx3) (HI.out.ext hx3) HWF.out).mono ?_; rintro e w4 ⟨rfl, hy4⟩
        have hx4 := hx3.trans hy4
        have HGZ := Lib.hid (gain_zero (x := x) (y := y) (l := l) (i := i))
        have HAP := Lib.hid (fun W (hW : Ext wA W) => Apply_c _ _ _ _ x l i W (HX.out.ext hW) (HI.out.ext hW))
        generalize hGK : gainK x y l i = K at *
        generalize hGV : gainV x y l i = V at *
        have HGV := Lib.hid hGV; clear hGV hGK
        by_cases h0 : K = 0
        · obtain ⟨ha, hp, hq, hv⟩ := HGZ.out h0
          rw [ha] at HAP
          have HQ := Lib.hid hq; have HP := Lib.hid hp; have HV := Lib.hid hv
          subst h0
          clear ha hp hq hv HGZ HGV
          generalize applyL x l i = A at *
          have hl1 := plL_le y l
          have hl2 : (plL y A).length ≤ 9 := by
            have := plL_le y A
            have h8 : A.length ≤ 8 := by
              have := HQ.out
              rw [plK, wordK] at this
              split at this
              · exact (validW_zero this).1
              · rename_i h1; exact absurd this h1
            omega
          have hwr : IntKind.i64.wrap (((plL y A).length : Int) - (plL y l).length) = ((plL y A).length : Int) - (plL y l).length := IntWalk.i64_in _ (by omega)
          go_wp2_with fail
          refine (HAP.out w4 hx4).mono ?_; rintro e w5 ⟨v5, rfl, ho5, hy5⟩
          have hx5 := hx4.trans hy5
          have HI5 := Lib.hid ho5.ints; clear ho5
          go_wp2_with fail
          refine (Places_c _ _ _ _ y l w5 (HY.out.ext hx5) (HI.out.ext hx5)).mono ?_; rw [HP.out]; rintro e w6 ⟨v6, rfl, ho6, hy6⟩
          have hx6 := hx5.trans hy6
          obtain ⟨a7, c7, rfl, _⟩ := ho6.ints.open_
          clear ho6
          go_wp2_with fail
          refine (Places_c _ _ _ _ y A w6 (HY.out.ext hx6) (HI5.out.ext hy6)).mono ?_; rw [HQ.out]; rintro e w7 ⟨v7, rfl, ho7, hy7⟩
          have hx7 := hx6.trans hy7
          obtain ⟨a8, c8, rfl, _⟩ := ho7.ints.open_
          clear ho7
          have hvv : (V == ((plL y A).length : Int) - (plL y l).length) = true := by rw [HV.out]; simp
          generalize (plL y A).length = N at *
          generalize (plL y l).length = M at *
          go_wp2_with fail
          refine (known_c _).mono ?_; rintro e wK ⟨rfl, hxK⟩
          go_wp2_with fail
          go_ret
          exact RV.bool rfl (hE0.trans (hx7.trans hxK))
        · have hk : (K != 0) = true := by simp [h0]
          clear HGZ h0
          go_wp2_with fail
          refine (known_c _).mono ?_; rintro e wK ⟨rfl, hxK⟩
          go_wp2_with fail
          go_ret
          exact RV.bool rfl (hE0.trans (hx4.trans hxK))
      · go_enter Try.func13, Try.ntmps13
        go_wp2_with fail
        rw [← HW.out]
        refine HLG.out.mono ?_; rintro e w1 ⟨rfl, hx1⟩
        go_wp2_with fail
        refine (HLH.out w1 hx1).mono ?_; rintro e wM ⟨rfl, hy2⟩
        have hx2 := hx1.trans hy2
        clear hx1 hy2
        go_wp2_with fail
        refine (HLA.out wM hx2).mono ?_; rintro e w2 ⟨rfl, hy2⟩
        replace hx2 := hx2.trans hy2
        clear hy2
        clear HLA
        go_wp2_with fail
        refine (known_c _).mono ?_; rintro e wK ⟨rfl, hxK⟩
        go_wp2_with fail
        go_ret
        exact RV.bool rfl (hE0.trans (hx2.trans hxK))
    · go_enter Try.func13, Try.ntmps13
      go_wp2_with fail
      rw [← HW.out]
      refine HLG.out.mono ?_; rintro e w1 ⟨rfl, hx1⟩
      go_wp2_with fail
      refine (HLH.out w1 hx1).mono ?_; rintro e wM ⟨rfl, hy2⟩
      have hx2 := hx1.trans hy2
      clear hx1 hy2
      go_wp2_with fail
      refine (known_c _).mono ?_; rintro e wK ⟨rfl, hxK⟩
      go_wp2_with fail
      go_ret
      exact RV.bool rfl (hE0.trans (hx2.trans hxK))
  · go_enter Try.func13, Try.ntmps13
    go_wp2_with fail
    rw [← HW.out]
    refine HLG.out.mono ?_; rintro e w1 ⟨rfl, hx1⟩
    go_wp2_with fail
    refine (known_c _).mono ?_; rintro e wK ⟨rfl, hxK⟩
    go_wp2_with fail
    go_ret
    exact RV.bool rfl (hE0.trans (hx1.trans hxK))
end Go.Proofs.Ytojbamejhlaahaa

