/- RuleCommutes: for every input the call returns true. No condition. -/
import Derived.Test.YtojbamejhlaahaaLaw2
import Derived.Test.YtojbamejhlaahaaTwoD
namespace Go.Proofs.Ytojbamejhlaahaa
open Go.RowKit Go.Shelf
set_option linter.unusedVariables false
theorem same_comm (a b : List Int) : sameIntsB a b = sameIntsB b a := by
  rw [sameIntsB_iff, sameIntsB_iff, Bool.beq_comm]
theorem com_comm {x y : Rul} {l : List Int} (h : comK x y l = 0) : comK y x l = 0 ∧ comB y x l = comB x y l := by
  have h2 := h
  unfold comK at h2
  split at h2
  · rename_i ht
    split at h2
    · rename_i hv
      split at h2
      · omega
      · rename_i hn
        have hty : twoK y x = 0 := by
          unfold twoK at ht ⊢
          split at ht
          · rename_i h1; rw [if_pos ht]; exact h1
          · rename_i h1; exact absurd ht h1
        have hk : comK y x l = 0 := by
          rw [comK, if_pos hty, if_pos hv, if_neg (by omega)]
        exact ⟨hk, by rw [comB, if_pos hk, comB, if_pos h, same_comm]⟩
    · rename_i hv; exact absurd h2 hv
  · rename_i ht; exact absurd h2 ht

set_option maxHeartbeats 2000000 in
set_option maxRecDepth 100000 in
theorem ruleCommutes_c (tv lv rv tu lu ru : Value) (x y : Rul) (wv : Value) (l : List Int) (w : World) (hr : RulR w tv lv rv x) (hs : RulR w tu lu ru y) (hw : Ints w wv l) :
    Calls Try.prog 9 #[.agg #[.int .i64 x.f, tv, lv, rv, .int .i64 y.f, tu, lu, ru], wv] w (RV (.bool true) w) := by
  obtain ⟨a1, c1, rfl, _⟩ := hr.t.open_
  obtain ⟨a2, c2, rfl, _⟩ := hr.l.open_
  obtain ⟨a3, c3, rfl, _⟩ := hr.r.open_
  obtain ⟨a4, c4, rfl, _⟩ := hs.t.open_
  obtain ⟨a5, c5, rfl, _⟩ := hs.l.open_
  obtain ⟨a6, c6, rfl, _⟩ := hs.r.open_
  obtain ⟨wA, hwA⟩ : ∃ wA, wA = w.alloc (.cells #[.int .i64 x.f, .slice a1 x.t.length c1, .slice a2 x.l.length c2, .slice a3 x.r.length c3, .int .i64 y.f, .slice a4 y.t.length c4, .slice a5 y.l.length c5, .slice a6 y.r.length c6] 45) := ⟨_, rfl⟩
  have hE0 : Ext w wA := by rw [hwA]; exact Ext.alloc _ _
  have k0 : ∀ W, Ext wA W → W.cell? ⟨w.heap.size, 0, none⟩ = some (.int .i64 x.f) := by rw [hwA]; exact kept_alloc w _ _ rfl
  have k1 : ∀ W, Ext wA W → W.cell? ⟨w.heap.size, 1, none⟩ = some (.slice a1 x.t.length c1) := by rw [hwA]; exact kept_alloc w _ _ rfl
  have k2 : ∀ W, Ext wA W → W.cell? ⟨w.heap.size, 2, none⟩ = some (.slice a2 x.l.length c2) := by rw [hwA]; exact kept_alloc w _ _ rfl
  have k3 : ∀ W, Ext wA W → W.cell? ⟨w.heap.size, 3, none⟩ = some (.slice a3 x.r.length c3) := by rw [hwA]; exact kept_alloc w _ _ rfl
  have k4 : ∀ W, Ext wA W → W.cell? ⟨w.heap.size, 4, none⟩ = some (.int .i64 y.f) := by rw [hwA]; exact kept_alloc w _ _ rfl
  have k5 : ∀ W, Ext wA W → W.cell? ⟨w.heap.size, 5, none⟩ = some (.slice a4 y.t.length c4) := by rw [hwA]; exact kept_alloc w _ _ rfl
  have k6 : ∀ W, Ext wA W → W.cell? ⟨w.heap.size, 6, none⟩ = some (.slice a5 y.l.length c5) := by rw [hwA]; exact kept_alloc w _ _ rfl
  have k7 : ∀ W, Ext wA W → W.cell? ⟨w.heap.size, 7, none⟩ = some (.slice a6 y.r.length c6) := by rw [hwA]; exact kept_alloc w _ _ rfl
  have H0 : Ext wA wA := Ext.refl _
  have HX := Lib.hid (hr.ext hE0)
  have HY := Lib.hid (hs.ext hE0)
  have HLG := Lib.hid (Long_c _ _ _ x wA HX.out)
  have HLH := Lib.hid (fun W (hW : Ext wA W) => Long_c _ _ _ y W (HY.out.ext hW))
  have HI := Lib.hid (hw.ext hE0)
  obtain ⟨aw, cw, rfl, _⟩ := hw.open_
  have HLA := Lib.hid (fun W (hW : Ext wA W) => large_c _ l W (HI.out.ext hW))
  have hb2 : decide (100 < l.length) = false → l.length ≤ 100 := fun h => by simpa using h
  have HB2 := Lib.hid hb2; clear hb2
  have HW := Lib.hid hwA; clear hwA hr hs hw
  generalize hb1 : longR x = b1 at *
  have HBX := Lib.hid hb1; clear hb1
  generalize hb1 : longR y = b2 at *
  have HBY := Lib.hid hb1; clear hb1
  generalize decide (100 < l.length) = b3 at *
  cases b1
  · cases b2
    · cases b3
      · have hll := HB2.out rfl
        go_enter Try.func9, Try.ntmps9
        go_wp2_with fail
        rw [← HW.out]
        refine HLG.out.mono ?_; rintro e w1 ⟨rfl, hx1⟩
        go_wp2_with fail
        refine (HLH.out w1 hx1).mono ?_; rintro e wM ⟨rfl, hy2⟩
        have hx2 := hx1.trans hy2
        clear hx1 hy2
        go_wp2_with fail
        refine (HLA.out wM hx2).mono ?_; rintro e w2 ⟨rfl, hy2⟩
        replace hx2 := hx2.trans hy2
        clear hy2
        clear HLA
        go_wp2_with fail
        refine (Commute_c _ _ _ _ _ _ x y _ l w2 (HX.out.ext hx2) (HY.out.ext hx2) (HI.out.ext hx2)).mono ?_; rintro e w3 ⟨rfl, hy3⟩
        have hx3 := hx2.trans hy3
        go_wp2_with fail
        refine (rCommute_c _ _ _ _ _ _ x y _ l w3 (HX.out.ext hx3) (HY.out.ext hx3) (HI.out.ext hx3)).mono ?_; rintro e w4 ⟨rfl, hy4⟩
        have hx4 := hx3.trans hy4
        have HC := Lib.hid (com_comm (x := x) (y := y) (l := l))
        generalize comK x y l = K at *
        generalize comB x y l = B at *
        go_wp2_with fail
        refine (Commute_c _ _ _ _ _ _ y x _ l w4 (HY.out.ext hx4) (HX.out.ext hx4) (HI.out.ext hx4)).mono ?_; rintro e w5 ⟨rfl, hy5⟩
        have hx5 := hx4.trans hy5
        generalize comK y x l = K2 at *
        generalize comB y x l = B2 at *
        by_cases h0 : K = 0
        · obtain ⟨rfl, rfl⟩ := HC.out h0
          subst h0
          clear HC
          go_wp2_with fail
          refine (known_c _).mono ?_; rintro e wK ⟨rfl, hxK⟩
          go_wp2_with fail
          go_ret
          exact RV.bool rfl (hE0.trans (hx5.trans hxK))
        · have hk : (K != 0) = true := by simp [h0]
          clear HC h0
          go_wp2_with fail
          refine (known_c _).mono ?_; rintro e wK ⟨rfl, hxK⟩
          go_wp2_with fail
          go_ret
          exact RV.bool rfl (hE0.trans (hx5.trans hxK))
      · go_enter Try.func9, Try.ntmps9
        go_wp2_with fail
        rw [← HW.out]
        refine HLG.out.mono ?_; rintro e w1 ⟨rfl, hx1⟩
        go_wp2_with fail
        refine (HLH.out w1 hx1).mono ?_; rintro e wM ⟨rfl, hy2⟩
        have hx2 := hx1.trans hy2
        clear hx1 hy2
        go_wp2_with fail
        refine (HLA.out wM hx2).mono ?_; rintro e w2 ⟨rfl, hy2⟩
        replace hx2 := hx2.trans hy2
        clear hy2
        clear HLA
        go_wp2_with fail
        refine (known_c _).mono ?_; rintro e wK ⟨rfl, hxK⟩
        go_wp2_with fail
        go_ret
        exact RV.bool rfl (hE0.trans (hx2.trans hxK))
    · go_enter Try.func9, Try.ntmps9
      go_wp2_with fail
      rw [← HW.out]
      refine HLG.out.mono ?_; rintro e w1 ⟨rfl, hx1⟩
      go_wp2_with fail
      refine (HLH.out w1 hx1).mono ?_; rintro e wM ⟨rfl, hy2⟩
      have hx2 := hx1.trans hy2
      clear hx1 hy2
      go_wp2_with fail
      refine (known_c _).mono ?_; rintro e wK ⟨rfl, hxK⟩
      go_wp2_with fail
      go_ret
      exact RV.bool rfl (hE0.trans (hx2.trans hxK))
  · go_enter Try.func9, Try.ntmps9
    go_wp2_with fail
    rw [← HW.out]
    refine HLG.out.mono ?_; rintro e w1 ⟨rfl, hx1⟩
    go_wp2_with fail
    refine (known_c _).mono ?_; rintro e wK ⟨rfl, hxK⟩
    go_wp2_with fail
    go_ret
    exact RV.bool rfl (hE0.trans (hx1.trans hxK))
end Go.Proofs.Ytojbamejhlaahaa

