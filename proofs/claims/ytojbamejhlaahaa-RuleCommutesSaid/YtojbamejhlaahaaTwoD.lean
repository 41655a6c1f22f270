/- Two rules: how many places one wins by another one; which commute on a word; both packages. -/
import Derived.Test.YtojbamejhlaahaaTwo
import Derived.Test.YtojbamejhlaahaaPeek
import Derived.Test.YtojbamejhlaahaaRulJ
namespace Go.Proofs.Ytojbamejhlaahaa
open Go.RowKit Go.Shelf
set_option linter.unusedVariables false

theorem two_zero {x y : Rul} (h : twoK x y = 0) : GoodR x ∧ GoodR y := by
  unfold twoK at h
  split at h
  · rename_i h1; exact ⟨validR_zero h1, validR_zero h⟩
  · omega
theorem sndB_allTo {x : Rul} {l : List Int} (h : sndB l = true) (ht : sndB x.t = true) : ∀ k, sndB (allTo x l k) = true
  | 0 => h
  | k + 1 => sndB_put (sndB_allTo h ht k) ht
theorem sndB_allL {x : Rul} {l : List Int} (h : sndB l = true) (ht : sndB x.t = true) : sndB (allL x l) = true := sndB_allTo h ht _
theorem apply_zero {x : Rul} {l : List Int} {i : Int} (h : applyK x l i = 0) : wordK x l = 0 ∧ (applyL x l i).length ≤ 8 ∧ sndB (applyL x l i) = true := by
  unfold applyK at h
  split at h
  · rename_i h0
    refine ⟨h0, ?_⟩
    obtain ⟨G, hl8, hsn⟩ := wordK_zero h0
    rw [applyL, if_pos h0]
    cases hp : placeB x l i
    · rw [hp] at h; simp [apK] at h
    · rw [hp] at h
      simp only [apK, cond_true, shortK] at h
      simp only [apL, cond_true, shortL]
      split at h
      · omega
      · rename_i h8
        rw [if_neg h8]
        exact ⟨by omega, sndB_put hsn G.snd⟩
  · rename_i h0; exact absurd h h0
def gainK (x y : Rul) (l : List Int) (i : Int) : Int := if twoK x y = 0 then applyK x l i else twoK x y
def gainV (x y : Rul) (l : List Int) (i : Int) : Int := if twoK x y = 0 then (if applyK x l i = 0 then ((placesL y (applyL x l i)).length : Int) - (placesL y l).length else 0) else 0

set_option maxHeartbeats 2000000 in
set_option maxRecDepth 100000 in
theorem Gain_c (tv lv rv tu lu ru : Value) (x y : Rul) (wv : Value) (l : List Int) (i : Int) (w : World) (hr : RulR w tv lv rv x) (hs : RulR w tu lu ru y) (hw : Ints w wv l) : Calls Try.prog 49 #[.agg #[.int .i64 x.f, tv, lv, rv], .agg #[.int .i64 y.f, tu, lu, ru], wv, .int .i64 i] w (RV (.tuple #[.int .i64 (gainV x y l i), .int .i64 (gainK x y l i)]) w) := by
  obtain ⟨wA, hwA⟩ : ∃ wA, wA = (w.alloc (.cells #[.int .i64 x.f, tv, lv, rv] 24)).alloc (.cells #[.int .i64 y.f, tu, lu, ru] 24) := ⟨_, rfl⟩
  have hE0 : Ext w wA := by rw [hwA]; exact (Ext.alloc _ _).trans (Ext.alloc _ _)
  have k0 : ∀ W, Ext wA W → W.cell? ⟨w.heap.size, 0, none⟩ = some (.int .i64 x.f) := by rw [hwA]; exact kept_alloc2 w _ _ _ _ rfl
  have k1 : ∀ W, Ext wA W → W.cell? ⟨w.heap.size, 1, none⟩ = some tv := by rw [hwA]; exact kept_alloc2 w _ _ _ _ rfl
  have k2 : ∀ W, Ext wA W → W.cell? ⟨w.heap.size, 2, none⟩ = some lv := by rw [hwA]; exact kept_alloc2 w _ _ _ _ rfl
  have k3 : ∀ W, Ext wA W → W.cell? ⟨w.heap.size, 3, none⟩ = some rv := by rw [hwA]; exact kept_alloc2 w _ _ _ _ rfl
  have m0 : ∀ W, Ext wA W → W.cell? ⟨w.heap.size + 1, 0, none⟩ = some (.int .i64 y.f) := by rw [hwA]; exact kept_alloc2' w _ _ _ _ rfl
  have m1 : ∀ W, Ext wA W → W.cell? ⟨w.heap.size + 1, 1, none⟩ = some tu := by rw [hwA]; exact kept_alloc2' w _ _ _ _ rfl
  have m2 : ∀ W, Ext wA W → W.cell? ⟨w.heap.size + 1, 2, none⟩ = some lu := by rw [hwA]; exact kept_alloc2' w _ _ _ _ rfl
  have m3 : ∀ W, Ext wA W → W.cell? ⟨w.heap.size + 1, 3, none⟩ = some ru := by rw [hwA]; exact kept_alloc2' w _ _ _ _ rfl
  have H0 : Ext wA wA := Ext.refl _
  have HX := Lib.hid (hr.ext hE0)
  have HY := Lib.hid (hs.ext hE0)
  have HI := Lib.hid (hw.ext hE0)
  have HT := Lib.hid (two_c tv lv rv tu lu ru x y wA HX.out HY.out)
  obtain ⟨aw, cw, rfl, _⟩ := hw.open_
  have HAP := Lib.hid (fun W (hW : Ext wA W) => Apply_c tv lv rv _ x l i W (HX.out.ext hW) (HI.out.ext hW))
  have HW := Lib.hid hwA
  have HGK := Lib.hid (show gainK x y l i = (if twoK x y = 0 then applyK x l i else twoK x y) from rfl)
  have HGV := Lib.hid (show gainV x y l i = if twoK x y = 0 then (if applyK x l i = 0 then ((placesL y (applyL x l i)).length : Int) - (placesL y l).length else 0) else 0 from rfl)
  clear hwA hr hs hw
  by_cases h0 : twoK x y = 0
  · rw [h0] at HT
    obtain ⟨GX, GY⟩ := two_zero h0
    by_cases ha : applyK x l i = 0
    · obtain ⟨hwk, hl8, hsn⟩ := apply_zero ha
      obtain ⟨_, hw8, hws⟩ := wordK_zero hwk
      have e1 : gainK x y l i = 0 := by rw [HGK.out, if_pos h0, ha]
      have e2 : gainV x y l i = ((placesL y (applyL x l i)).length : Int) - (placesL y l).length := by rw [HGV.out, if_pos h0, if_pos ha]
      have hp1 := places_le y (applyL x l i)
      have hp2 := places_le y l
      have hwr : IntKind.i64.wrap (((placesL y (applyL x l i)).length : Int) - (placesL y l).length) = ((placesL y (applyL x l i)).length : Int) - (placesL y l).length := IntWalk.i64_in _ (by omega)
      rw [e1, e2]
      rw [ha] at HAP
      have HGY := Lib.hid GY
      have HSN := Lib.hid hsn; have HWS := Lib.hid hws
      clear e1 e2 ha h0 GX GY hwk hsn hws hp1 hp2
      generalize applyL x l i = A at *
      go_enter Try.func49, Try.ntmps49
      go_wp2_with fail
      rw [← HW.out]
      refine HT.out.mono ?_; rintro e w1 ⟨rfl, hx1⟩
      go_wp2_with fail
      refine (HAP.out w1 hx1).mono ?_; rintro e w2 ⟨v2, rfl, ho2, hy2⟩
      have hx2 := hx1.trans hy2
      clear hx1 hy2
      have HI2 := Lib.hid ho2.ints
      obtain ⟨a2, c2, rfl, _⟩ := ho2.ints.open_
      clear ho2
      go_wp2_with fail
      refine wp_region_peek (Ext w2) (fun _ => True) [] [.look 0, .look 1, .look 4, .look 5, .go 2, .look 3, .go 6, .look 7, .look 8, .look 9, .look 10] (by kernel_rfl) (by kernel_rfl) (by intro c a d v w h; cases d <;> exact h) ?_
      have hd : Ext w2 { w2 with drawn := w2.drawn + 1 } := drawn_ext w2
      have hs : ∀ s : InC (Ext w2), Ext wA s.w := fun s => hx2.trans s.h
      generalize { w2 with drawn := w2.drawn + 1 } = W0 at *
      iterate 4 (refine wpPeek_look rfl ‹_› (fun K hK => ?_); go_simp; first | (refine hK _ ?_; clear hK K) | (refine ⟨_, fun _ => rfl, hK _ ?_⟩; clear hK K))
      refine wpPeek_go rfl rfl (fun K hK => ?_)
      go_wp2_with fail
      refine (places_c tu lu ru _ y A W0 (HY.out.ext (hx2.trans hd)) (HI2.out.ext hd) HSN.out (by omega)).mono ?_; rintro e W1 ⟨v3, rfl, ho3, hy3⟩
      obtain ⟨a3, c3, rfl, _⟩ := ho3.ints.open_
      clear ho3
      go_wp2_with fail
      refine ⟨KeepE.of (fun h => h.trans hy3) (fun _ => trivial), ?_⟩
      replace hd := hd.trans hy3
      iterate 1 (refine wpPeek_look rfl ‹_› (fun K hK => ?_); go_simp; first | (refine hK _ ?_; clear hK K) | (refine ⟨_, fun _ => rfl, hK _ ?_⟩; clear hK K))
      refine wpPeek_go rfl rfl (fun K hK => ?_)
      go_wp2_with fail
      refine (places_c tu lu ru _ y l W1 (HY.out.ext (hx2.trans hd)) (HI.out.ext (hx2.trans hd)) HWS.out (by omega)).mono ?_; rintro e W2 ⟨v4, rfl, ho4, hy4⟩
      obtain ⟨a4, c4, rfl, _⟩ := ho4.ints.open_
      clear ho4
      go_wp2_with fail
      refine ⟨KeepE.of (fun h => h.trans hy4) (fun _ => trivial), ?_⟩
      replace hd := hd.trans hy4
      iterate 4 (refine wpPeek_look rfl ‹_› (fun K hK => ?_); go_simp; first | (refine hK _ ?_; clear hK K) | (refine ⟨_, fun _ => rfl, hK _ ?_⟩; clear hK K))
      refine wpPeek_nil ?_
      clear hs
      go_wp2_with fail
      go_ret2
      exact RV.mk rfl (hE0.trans (hx2.trans hd))
    · have e1 : gainK x y l i = applyK x l i := by rw [HGK.out, if_pos h0]
      have e2 : gainV x y l i = 0 := by rw [HGV.out, if_pos h0, if_neg ha]
      rw [e1, e2]
      have hk : (applyK x l i != 0) = true := by simp [ha]
      generalize applyK x l i = k at *
      clear e1 e2 ha h0 GX GY
      go_enter Try.func49, Try.ntmps49
      go_wp2_with fail
      rw [← HW.out]
      refine HT.out.mono ?_; rintro e w1 ⟨rfl, hx1⟩
      go_wp2_with fail
      refine (HAP.out w1 hx1).mono ?_; rintro e w2 ⟨v2, rfl, ho2, hy2⟩
      clear ho2
      go_wp2_with fail
      go_ret2
      exact RV.mk rfl (hE0.trans (hx1.trans hy2))
  · have e1 : gainK x y l i = twoK x y := by rw [HGK.out, if_neg h0]
    have e2 : gainV x y l i = 0 := by rw [HGV.out, if_neg h0]
    rw [e1, e2]
    have hk : (twoK x y != 0) = true := by simp [h0]
    generalize twoK x y = k at *
    clear e1 e2 h0
    go_enter Try.func49, Try.ntmps49
    go_wp2_with fail
    rw [← HW.out]
    refine HT.out.mono ?_; rintro e w1 ⟨rfl, hx1⟩
    go_wp2_with fail
    go_ret2
    exact RV.mk rfl (hE0.trans hx1)

set_option maxHeartbeats 2000000 in
set_option maxRecDepth 100000 in
theorem rGain_c (tv lv rv tu lu ru : Value) (x y : Rul) (wv : Value) (l : List Int) (i : Int) (w : World) (hr : RulR w tv lv rv x) (hs : RulR w tu lu ru y) (hw : Ints w wv l) (hi : (Lit.int .i64 i).wf = true) : Calls Try.prog 50 #[.agg #[.int .i64 x.f, tv, lv, rv], .agg #[.int .i64 y.f, tu, lu, ru], wv, .int .i64 i] w (RV (.tuple #[.int .i64 (gainV x y l i), .int .i64 (gainK x y l i)]) w) := by
  obtain ⟨wA, hwA⟩ : ∃ wA, wA = (w.alloc (.cells #[.int .i64 x.f, tv, lv, rv] 24)).alloc (.cells #[.int .i64 y.f, tu, lu, ru] 24) := ⟨_, rfl⟩
  have hE0 : Ext w wA := by rw [hwA]; exact (Ext.alloc _ _).trans (Ext.alloc _ _)
  have k0 : ∀ W, Ext wA W → W.cell? ⟨w.heap.size, 0, none⟩ = some (.int .i64 x.f) := by rw [hwA]; exact kept_alloc2 w _ _ _ _ rfl
  have k1 : ∀ W, Ext wA W → W.cell? ⟨w.heap.size, 1, none⟩ = some tv := by rw [hwA]; exact kept_alloc2 w _ _ _ _ rfl
  have k2 : ∀ W, Ext wA W → W.cell? ⟨w.heap.size, 2, none⟩ = some lv := by rw [hwA]; exact kept_alloc2 w _ _ _ _ rfl
  have k3 : ∀ W, Ext wA W → W.cell? ⟨w.heap.size, 3, none⟩ = some rv := by rw [hwA]; exact kept_alloc2 w _ _ _ _ rfl
  have m0 : ∀ W, Ext wA W → W.cell? ⟨w.heap.size + 1, 0, none⟩ = some (.int .i64 y.f) := by rw [hwA]; exact kept_alloc2' w _ _ _ _ rfl
  have m1 : ∀ W, Ext wA W → W.cell? ⟨w.heap.size + 1, 1, none⟩ = some tu := by rw [hwA]; exact kept_alloc2' w _ _ _ _ rfl
  have m2 : ∀ W, Ext wA W → W.cell? ⟨w.heap.size + 1, 2, none⟩ = some lu := by rw [hwA]; exact kept_alloc2' w _ _ _ _ rfl
  have m3 : ∀ W, Ext wA W → W.cell? ⟨w.heap.size + 1, 3, none⟩ = some ru := by rw [hwA]; exact kept_alloc2' w _ _ _ _ rfl
  have H0 : Ext wA wA := Ext.refl _
  have HX := Lib.hid (hr.ext hE0)
  have HY := Lib.hid (hs.ext hE0)
  have HI := Lib.hid (hw.ext hE0)
  have HT := Lib.hid (rtwo_c tv lv rv tu lu ru x y wA HX.out HY.out)
  obtain ⟨aw, cw, rfl, _⟩ := hw.open_
  have HAP := Lib.hid (fun W (hW : Ext wA W) => rApply_c tv lv rv _ x l i W (HX.out.ext hW) (HI.out.ext hW) hi)
  have HW := Lib.hid hwA
  have HGK := Lib.hid (show gainK x y l i = (if twoK x y = 0 then applyK x l i else twoK x y) from rfl)
  have HGV := Lib.hid (show gainV x y l i = if twoK x y = 0 then (if applyK x l i = 0 then ((placesL y (applyL x l i)).length : Int) - (placesL y l).length else 0) else 0 from rfl)
  clear hwA hr hs hw hi
  by_cases h0 : twoK x y = 0
  · rw [h0] at HT
    obtain ⟨GX, GY⟩ := two_zero h0
    by_cases ha : applyK x l i = 0
    · obtain ⟨hwk, hl8, hsn⟩ := apply_zero ha
      obtain ⟨_, hw8, hws⟩ := wordK_zero hwk
      have e1 : gainK x y l i = 0 := by rw [HGK.out, if_pos h0, ha]
      have e2 : gainV x y l i = ((placesL y (applyL x l i)).length : Int) - (placesL y l).length := by rw [HGV.out, if_pos h0, if_pos ha]
      have hp1 := places_le y (applyL x l i)
      have hp2 := places_le y l
      have hwr : IntKind.i64.wrap (((placesL y (applyL x l i)).length : Int) - (placesL y l).length) = ((placesL y (applyL x l i)).length : Int) - (placesL y l).length := IntWalk.i64_in _ (by omega)
      rw [e1, e2]
      rw [ha] at HAP
      have HGY := Lib.hid GY
      have HSN := Lib.hid hsn; have HWS := Lib.hid hws
      clear e1 e2 ha h0 GX GY hwk hsn hws hp1 hp2
      generalize applyL x l i = A at *
      go_enter Try.func50, Try.ntmps50
      go_wp2_with fail
      rw [← HW.out]
      refine HT.out.mono ?_; rintro e w1 ⟨rfl, hx1⟩
      go_wp2_with fail
      refine (HAP.out w1 hx1).mono ?_; rintro e w2 ⟨v2, rfl, ho2, hy2⟩
      have hx2 := hx1.trans hy2
      clear hx1 hy2
      have HI2 := Lib.hid ho2.ints
      obtain ⟨a2, c2, rfl, _⟩ := ho2.ints.open_
      clear ho2
      go_wp2_with fail
      refine wp_region_peek (Ext w2) (fun _ => True) [] [.look 0, .look 1, .look 4, .look 5, .go 2, .look 3, .go 6, .look 7, .look 8, .look 9, .look 10] (by kernel_rfl) (by kernel_rfl) (by intro c a d v w h; cases d <;> exact h) ?_
      have hd : Ext w2 { w2 with drawn := w2.drawn + 1 } := drawn_ext w2
      have hs : ∀ s : InC (Ext w2), Ext wA s.w := fun s => hx2.trans s.h
      generalize { w2 with drawn := w2.drawn + 1 } = W0 at *
      iterate 4 (refine wpPeek_look rfl ‹_› (fun K hK => ?_); go_simp; first | (refine hK _ ?_; clear hK K) | (refine ⟨_, fun _ => rfl, hK _ ?_⟩; clear hK K))
      refine wpPeek_go rfl rfl (fun K hK => ?_)
      go_wp2_with fail
      refine (placesOf_c tu lu ru _ y A W0 (HY.out.ext (hx2.trans hd)) (HI2.out.ext hd) HGY.out.nb (by omega)).mono ?_; rintro e W1 ⟨v3, rfl, ho3, hy3⟩
      obtain ⟨a3, c3, rfl, _⟩ := ho3.ints.open_
      clear ho3
      go_wp2_with fail
      refine ⟨KeepE.of (fun h => h.trans hy3) (fun _ => trivial), ?_⟩
      replace hd := hd.trans hy3
      iterate 1 (refine wpPeek_look rfl ‹_› (fun K hK => ?_); go_simp; first | (refine hK _ ?_; clear hK K) | (refine ⟨_, fun _ => rfl, hK _ ?_⟩; clear hK K))
      refine wpPeek_go rfl rfl (fun K hK => ?_)
      go_wp2_with fail
      refine (placesOf_c tu lu ru _ y l W1 (HY.out.ext (hx2.trans hd)) (HI.out.ext (hx2.trans hd)) HGY.out.nb (by omega)).mono ?_; rintro e W2 ⟨v4, rfl, ho4, hy4⟩
      obtain ⟨a4, c4, rfl, _⟩ := ho4.ints.open_
      clear ho4
      go_wp2_with fail
      refine ⟨KeepE.of (fun h => h.trans hy4) (fun _ => trivial), ?_⟩
      replace hd := hd.trans hy4
      iterate 4 (refine wpPeek_look rfl ‹_› (fun K hK => ?_); go_simp; first | (refine hK _ ?_; clear hK K) | (refine ⟨_, fun _ => rfl, hK _ ?_⟩; clear hK K))
      refine wpPeek_nil ?_
      clear hs
      go_wp2_with fail
      go_ret2
      exact RV.mk rfl (hE0.trans (hx2.trans hd))
    · have e1 : gainK x y l i = applyK x l i := by rw [HGK.out, if_pos h0]
      have e2 : gainV x y l i = 0 := by rw [HGV.out, if_pos h0, if_neg ha]
      rw [e1, e2]
      have hk : (applyK x l i != 0) = true := by simp [ha]
      generalize applyK x l i = k at *
      clear e1 e2 ha h0 GX GY
      go_enter Try.func50, Try.ntmps50
      go_wp2_with fail
      rw [← HW.out]
      refine HT.out.mono ?_; rintro e w1 ⟨rfl, hx1⟩
      go_wp2_with fail
      refine (HAP.out w1 hx1).mono ?_; rintro e w2 ⟨v2, rfl, ho2, hy2⟩
      clear ho2
      go_wp2_with fail
      go_ret2
      exact RV.mk rfl (hE0.trans (hx1.trans hy2))
  · have e1 : gainK x y l i = twoK x y := by rw [HGK.out, if_neg h0]
    have e2 : gainV x y l i = 0 := by rw [HGV.out, if_neg h0]
    rw [e1, e2]
    have hk : (twoK x y != 0) = true := by simp [h0]
    generalize twoK x y = k at *
    clear e1 e2 h0
    go_enter Try.func50, Try.ntmps50
    go_wp2_with fail
    rw [← HW.out]
    refine HT.out.mono ?_; rintro e w1 ⟨rfl, hx1⟩
    go_wp2_with fail
    go_ret2
    exact RV.mk rfl (hE0.trans hx1)

/-! ## commuting -/
def comK (x y : Rul) (l : List Int) : Int := if twoK x y = 0 then (if validW l = 0 then (if 8 < (allL x l).length ∨ 8 < (allL y l).length ∨ 8 < (allL y (allL x l)).length ∨ 8 < (allL x (allL y l)).length then 3 else 0) else validW l) else twoK x y
def comB (x y : Rul) (l : List Int) : Bool := if comK x y l = 0 then sameIntsB (allL y (allL x l)) (allL x (allL y l)) else false

set_option maxHeartbeats 4000000 in
set_option maxRecDepth 100000 in
theorem Commute_c (tv lv rv tu lu ru : Value) (x y : Rul) (wv : Value) (l : List Int) (w : World) (hr : RulR w tv lv rv x) (hs : RulR w tu lu ru y) (hw : Ints w wv l) : Calls Try.prog 38 #[.agg #[.int .i64 x.f, tv, lv, rv], .agg #[.int .i64 y.f, tu, lu, ru], wv] w (RV (.tuple #[.bool (comB x y l), .int .i64 (comK x y l)]) w) := by
  obtain ⟨wA, hwA⟩ : ∃ wA, wA = (w.alloc (.cells #[.int .i64 x.f, tv, lv, rv] 24)).alloc (.cells #[.int .i64 y.f, tu, lu, ru] 24) := ⟨_, rfl⟩
  have hE0 : Ext w wA := by rw [hwA]; exact (Ext.alloc _ _).trans (Ext.alloc _ _)
  have k0 : ∀ W, Ext wA W → W.cell? ⟨w.heap.size, 0, none⟩ = some (.int .i64 x.f) := by rw [hwA]; exact kept_alloc2 w _ _ _ _ rfl
  have k1 : ∀ W, Ext wA W → W.cell? ⟨w.heap.size, 1, none⟩ = some tv := by rw [hwA]; exact kept_alloc2 w _ _ _ _ rfl
  have k2 : ∀ W, Ext wA W → W.cell? ⟨w.heap.size, 2, none⟩ = some lv := by rw [hwA]; exact kept_alloc2 w _ _ _ _ rfl
  have k3 : ∀ W, Ext wA W → W.cell? ⟨w.heap.size, 3, none⟩ = some rv := by rw [hwA]; exact kept_alloc2 w _ _ _ _ rfl
  have m0 : ∀ W, Ext wA W → W.cell? ⟨w.heap.size + 1, 0, none⟩ = some (.int .i64 y.f) := by rw [hwA]; exact kept_alloc2' w _ _ _ _ rfl
  have m1 : ∀ W, Ext wA W → W.cell? ⟨w.heap.size + 1, 1, none⟩ = some tu := by rw [hwA]; exact kept_alloc2' w _ _ _ _ rfl
  have m2 : ∀ W, Ext wA W → W.cell? ⟨w.heap.size + 1, 2, none⟩ = some lu := by rw [hwA]; exact kept_alloc2' w _ _ _ _ rfl
  have m3 : ∀ W, Ext wA W → W.cell? ⟨w.heap.size + 1, 3, none⟩ = some ru := by rw [hwA]; exact kept_alloc2' w _ _ _ _ rfl
  have H0 : Ext wA wA := Ext.refl _
  have HX := Lib.hid (hr.ext hE0)
  have HY := Lib.hid (hs.ext hE0)
  have HI := Lib.hid (hw.ext hE0)
  have HT := Lib.hid (two_c tv lv rv tu lu ru x y wA HX.out HY.out)
  have HVW := Lib.hid (fun W (hW : Ext wA W) => ValidateWord_c wv l W (HI.out.ext hW))
  obtain ⟨aw, cw, rfl, _⟩ := hw.open_
  have HW := Lib.hid hwA
  have HCK := Lib.hid (show comK x y l = (if twoK x y = 0 then (if validW l = 0 then (if 8 < (allL x l).length ∨ 8 < (allL y l).length ∨ 8 < (allL y (allL x l)).length ∨ 8 < (allL x (allL y l)).length then 3 else 0) else validW l) else twoK x y) from rfl)
  have HCB := Lib.hid (show comB x y l = if comK x y l = 0 then sameIntsB (allL y (allL x l)) (allL x (allL y l)) else false from rfl)
  clear hwA hr hs hw
  by_cases h0 : twoK x y = 0
  · rw [h0] at HT
    obtain ⟨GX, GY⟩ := two_zero h0
    have HGX := Lib.hid GX; have HGY := Lib.hid GY
    by_cases hv : validW l = 0
    · obtain ⟨hw8, hws⟩ := validW_zero hv
      rw [hv] at HVW
      have HWS := Lib.hid hws
      have HSA := Lib.hid (sndB_allL (x := x) hws GX.snd)
      have HSB := Lib.hid (sndB_allL (x := y) hws GY.snd)
      have hlA := all_len x l GX.len
      have hlB := all_len y l GY.len
      have hlC := all_len y (allL x l) GY.len
      have hlD := all_len x (allL y l) GX.len
      have hck : comK x y l = if 8 < (allL x l).length ∨ 8 < (allL y l).length ∨ 8 < (allL y (allL x l)).length ∨ 8 < (allL x (allL y l)).length then 3 else 0 := by rw [HCK.out, if_pos h0, if_pos hv]
      have HCK2 := Lib.hid hck
      have HCA := Lib.hid (fun W (hW : Ext wA W) => all_c tv lv rv _ x l W (HX.out.ext hW) (HI.out.ext hW) HWS.out (by omega) HGX.out.len)
      have HCB_ := Lib.hid (fun W (hW : Ext wA W) => all_c tu lu ru _ y l W (HY.out.ext hW) (HI.out.ext hW) HWS.out (by omega) HGY.out.len)
      have HCC := Lib.hid (fun v W (hW : Ext wA W) (hi : Ints W v (allL x l)) => all_c tu lu ru v y (allL x l) W (HY.out.ext hW) hi HSA.out (by omega) HGY.out.len)
      have HCD := Lib.hid (fun v W (hW : Ext wA W) (hi : Ints W v (allL y l)) => all_c tv lv rv v x (allL y l) W (HX.out.ext hW) hi HSB.out (by omega) HGX.out.len)
      clear hck GX GY hws h0 hv HCK
      generalize hA : allL x l = A at *
      generalize hB : allL y l = B at *
      generalize hC : allL y A = C at *
      generalize hD : allL x B = D at *
      clear hA hB hC hD
      obtain ⟨M1, hM1⟩ : ∃ M, M = max A.length B.length := ⟨_, rfl⟩
      have hmx1 : (if A.length < B.length then (B.length : Int) else A.length) = (M1 : Int) := by
        rw [hM1, Nat.max_def]; split <;> split <;> omega
      have HM1 := Lib.hid hM1; clear hM1
      obtain ⟨M2, hM2⟩ : ∃ M, M = max C.length D.length := ⟨_, rfl⟩
      have hmx2 : (if C.length < D.length then (D.length : Int) else C.length) = (M2 : Int) := by
        rw [hM2, Nat.max_def]; split <;> split <;> omega
      have HM2 := Lib.hid hM2; clear hM2
      by_cases h8 : 8 < M1
      · have h8d : decide ((8 : Int) < (M1 : Int)) = true := by simp; omega
        obtain ⟨e1, e2⟩ : comK x y l = 3 ∧ comB x y l = false := by
          have e1 : comK x y l = 3 := by rw [HCK2.out, if_pos (show 8 < A.length ∨ 8 < B.length ∨ 8 < C.length ∨ 8 < D.length by have := HM1.out; rw [Nat.max_def] at this; split at this <;> omega)]
          exact ⟨e1, by rw [HCB.out, e1]; rfl⟩
        rw [e1, e2]
        clear e1 e2
        go_enter Try.func38, Try.ntmps38
        go_wp2_with fail
        rw [← HW.out]
        refine HT.out.mono ?_; rintro e w1 ⟨rfl, hx1⟩
        go_wp2_with fail
        refine (HVW.out w1 hx1).mono ?_; rintro e w2 ⟨rfl, hy2⟩
        have hx2 := hx1.trans hy2
        clear hx1 hy2
        go_wp2_with fail
        refine wp_region_peek (Ext w2) (fun _ => True) [] [.look 0, .look 1, .look 3, .look 4, .go 2, .go 5, .look 6, .look 7] (by kernel_rfl) (by kernel_rfl) (by intro c a d v w h; cases d <;> exact h) ?_
        have hd : Ext w2 { w2 with drawn := w2.drawn + 1 } := drawn_ext w2
        have hs : ∀ s : InC (Ext w2), Ext wA s.w := fun s => hx2.trans s.h
        generalize { w2 with drawn := w2.drawn + 1 } = W0 at *
        iterate 4 (refine wpPeek_look rfl ‹_› (fun K hK => ?_); go_simp; first | (refine hK _ ?_; clear hK K) | (refine ⟨_, fun _ => rfl, hK _ ?_⟩; clear hK K))
        refine wpPeek_go rfl rfl (fun K hK => ?_)
        go_wp2_with fail
        refine (HCA.out _ (hx2.trans hd)).mono ?_; rintro e W1 ⟨v3, rfl, ho3, hy3⟩
        have HIA3 := Lib.hid ho3.ints
        obtain ⟨a3, c3, rfl, _⟩ := ho3.ints.open_
        clear ho3
        go_wp2_with fail
        refine ⟨KeepE.of (fun h => h.trans hy3) (fun _ => trivial), ?_⟩
        replace hd := hd.trans hy3
        refine wpPeek_go rfl rfl (fun K hK => ?_)
        go_wp2_with fail
        refine (HCB_.out _ (hx2.trans hd)).mono ?_; rintro e w3 ⟨u3, rfl, ho4, hy4⟩
        have HIB3 := Lib.hid ho4.ints
        obtain ⟨b3, d3, rfl, _⟩ := ho4.ints.open_
        clear ho4
        go_wp2_with fail
        refine ⟨KeepE.of (fun h => h.trans hy4) (fun _ => trivial), ?_⟩
        replace hd := hd.trans hy4
        have HIC3 := Lib.hid (HIA3.out.ext hy4)
        have hx3 := hx2.trans hd
        have hz3 := hd
        clear hy3 hy4 hd
        iterate 2 (refine wpPeek_look rfl ‹_› (fun K hK => ?_); go_simp; first | (refine hK _ ?_; clear hK K) | (refine ⟨_, fun _ => rfl, hK _ ?_⟩; clear hK K))
        refine wpPeek_nil ?_
        clear hs
        go_wp2_with fail
        all_goals
          go_ret2
          exact RV.mk rfl (hE0.trans hx3)
      · have h8d : decide ((8 : Int) < (M1 : Int)) = false := by simp; omega
        by_cases h9 : 8 < M2
        · have h9d : decide ((8 : Int) < (M2 : Int)) = true := by simp; omega
          obtain ⟨e1, e2⟩ : comK x y l = 3 ∧ comB x y l = false := by
            have e1 : comK x y l = 3 := by rw [HCK2.out, if_pos (show 8 < A.length ∨ 8 < B.length ∨ 8 < C.length ∨ 8 < D.length by have := HM2.out; rw [Nat.max_def] at this; split at this <;> omega)]
            exact ⟨e1, by rw [HCB.out, e1]; rfl⟩
          rw [e1, e2]
          clear e1 e2
          go_enter Try.func38, Try.ntmps38
          go_wp2_with fail
          rw [← HW.out]
          refine HT.out.mono ?_; rintro e w1 ⟨rfl, hx1⟩
          go_wp2_with fail
          refine (HVW.out w1 hx1).mono ?_; rintro e w2 ⟨rfl, hy2⟩
          have hx2 := hx1.trans hy2
          clear hx1 hy2
          go_wp2_with fail
          refine wp_region_peek (Ext w2) (fun _ => True) [] [.look 0, .look 1, .look 3, .look 4, .go 2, .go 5, .look 6, .look 7] (by kernel_rfl) (by kernel_rfl) (by intro c a d v w h; cases d <;> exact h) ?_
          have hd : Ext w2 { w2 with drawn := w2.drawn + 1 } := drawn_ext w2
          have hs : ∀ s : InC (Ext w2), Ext wA s.w := fun s => hx2.trans s.h
          generalize { w2 with drawn := w2.drawn + 1 } = W0 at *
          iterate 4 (refine wpPeek_look rfl ‹_› (fun K hK => ?_); go_simp; first | (refine hK _ ?_; clear hK K) | (refine ⟨_, fun _ => rfl, hK _ ?_⟩; clear hK K))
          refine wpPeek_go rfl rfl (fun K hK => ?_)
          go_wp2_with fail
          refine (HCA.out _ (hx2.trans hd)).mono ?_; rintro e W1 ⟨v3, rfl, ho3, hy3⟩
          have HIA3 := Lib.hid ho3.ints
          obtain ⟨a3, c3, rfl, _⟩ := ho3.ints.open_
          clear ho3
          go_wp2_with fail
          refine ⟨KeepE.of (fun h => h.trans hy3) (fun _ => trivial), ?_⟩
          replace hd := hd.trans hy3
          refine wpPeek_go rfl rfl (fun K hK => ?_)
          go_wp2_with fail
          refine (HCB_.out _ (hx2.trans hd)).mono ?_; rintro e w3 ⟨u3, rfl, ho4, hy4⟩
          have HIB3 := Lib.hid ho4.ints
          obtain ⟨b3, d3, rfl, _⟩ := ho4.ints.open_
          clear ho4
          go_wp2_with fail
          refine ⟨KeepE.of (fun h => h.trans hy4) (fun _ => trivial), ?_⟩
          replace hd := hd.trans hy4
          have HIC3 := Lib.hid (HIA3.out.ext hy4)
          have hx3 := hx2.trans hd
          have hz3 := hd
          clear hy3 hy4 hd
          iterate 2 (refine wpPeek_look rfl ‹_› (fun K hK => ?_); go_simp; first | (refine hK _ ?_; clear hK K) | (refine ⟨_, fun _ => rfl, hK _ ?_⟩; clear hK K))
          refine wpPeek_nil ?_
          clear hs
          go_wp2_with fail
          all_goals
            refine wp_region_peek (Ext w3) (fun _ => True) [] [.look 0, .look 1, .look 3, .look 4, .go 2, .go 5, .look 6, .look 7] (by kernel_rfl) (by kernel_rfl) (by intro c a d v w h; cases d <;> exact h) ?_
            have hd : Ext w3 { w3 with drawn := w3.drawn + 1 } := drawn_ext w3
            have hs : ∀ s : InC (Ext w3), Ext wA s.w := fun s => hx3.trans s.h
            generalize { w3 with drawn := w3.drawn + 1 } = W0 at *
            iterate 4 (refine wpPeek_look rfl ‹_› (fun K hK => ?_); go_simp; first | (refine hK _ ?_; clear hK K) | (refine ⟨_, fun _ => rfl, hK _ ?_⟩; clear hK K))
            refine wpPeek_go rfl rfl (fun K hK => ?_)
            go_wp2_with fail
            refine (HCC.out _ _ (hx3.trans hd) (HIC3.out.ext hd)).mono ?_; rintro e W1 ⟨v4, rfl, ho3, hy3⟩
            have HIA4 := Lib.hid ho3.ints
            obtain ⟨a4, c4, rfl, _⟩ := ho3.ints.open_
            clear ho3
            go_wp2_with fail
            refine ⟨KeepE.of (fun h => h.trans hy3) (fun _ => trivial), ?_⟩
            replace hd := hd.trans hy3
            refine wpPeek_go rfl rfl (fun K hK => ?_)
            go_wp2_with fail
            refine (HCD.out _ _ (hx3.trans hd) (HIB3.out.ext hd)).mono ?_; rintro e w4 ⟨u4, rfl, ho4, hy4⟩
            have HIB4 := Lib.hid ho4.ints
            obtain ⟨b4, d4, rfl, _⟩ := ho4.ints.open_
            clear ho4
            go_wp2_with fail
            refine ⟨KeepE.of (fun h => h.trans hy4) (fun _ => trivial), ?_⟩
            replace hd := hd.trans hy4
            have HIC4 := Lib.hid (HIA4.out.ext hy4)
            have hx4 := hx3.trans hd
            have hz4 := hd
            clear hy3 hy4 hd
            iterate 2 (refine wpPeek_look rfl ‹_› (fun K hK => ?_); go_simp; first | (refine hK _ ?_; clear hK K) | (refine ⟨_, fun _ => rfl, hK _ ?_⟩; clear hK K))
            refine wpPeek_nil ?_
            clear hs
            go_wp2_with fail
            all_goals
              go_ret2
              exact RV.mk rfl (hE0.trans hx4)
        · have h9d : decide ((8 : Int) < (M2 : Int)) = false := by simp; omega
          obtain ⟨e1, e2⟩ : comK x y l = 0 ∧ comB x y l = sameIntsB C D := by
            have e1 : comK x y l = 0 := by
              rw [HCK2.out, if_neg (by have h1 := HM1.out; have h2 := HM2.out; rw [Nat.max_def] at h1 h2; split at h1 <;> split at h2 <;> omega)]
            exact ⟨e1, by rw [HCB.out, if_pos e1]⟩
          rw [e1, e2]
          clear e1 e2
          go_enter Try.func38, Try.ntmps38
          go_wp2_with fail
          rw [← HW.out]
          refine HT.out.mono ?_; rintro e w1 ⟨rfl, hx1⟩
          go_wp2_with fail
          refine (HVW.out w1 hx1).mono ?_; rintro e w2 ⟨rfl, hy2⟩
          have hx2 := hx1.trans hy2
          clear hx1 hy2
          go_wp2_with fail
          refine wp_region_peek (Ext w2) (fun _ => True) [] [.look 0, .look 1, .look 3, .look 4, .go 2, .go 5, .look 6, .look 7] (by kernel_rfl) (by kernel_rfl) (by intro c a d v w h; cases d <;> exact h) ?_
          have hd : Ext w2 { w2 with drawn := w2.drawn + 1 } := drawn_ext w2
          have hs : ∀ s : InC (Ext w2), Ext wA s.w := fun s => hx2.trans s.h
          generalize { w2 with drawn := w2.drawn + 1 } = W0 at *
          iterate 4 (refine wpPeek_look rfl ‹_› (fun K hK => ?_); go_simp; first | (refine hK _ ?_; clear hK K) | (refine ⟨_, fun _ => rfl, hK _ ?_⟩; clear hK K))
          refine wpPeek_go rfl rfl (fun K hK => ?_)
          go_wp2_with fail
          refine (HCA.out _ (hx2.trans hd)).mono ?_; rintro e W1 ⟨v3, rfl, ho3, hy3⟩
          have HIA3 := Lib.hid ho3.ints
          obtain ⟨a3, c3, rfl, _⟩ := ho3.ints.open_
          clear ho3
          go_wp2_with fail
          refine ⟨KeepE.of (fun h => h.trans hy3) (fun _ => trivial), ?_⟩
          replace hd := hd.trans hy3
          refine wpPeek_go rfl rfl (fun K hK => ?_)
          go_wp2_with fail
          refine (HCB_.out _ (hx2.trans hd)).mono ?_; rintro e w3 ⟨u3, rfl, ho4, hy4⟩
          have HIB3 := Lib.hid ho4.ints
          obtain ⟨b3, d3, rfl, _⟩ := ho4.ints.open_
          clear ho4
          go_wp2_with fail
          refine ⟨KeepE.of (fun h => h.trans hy4) (fun _ => trivial), ?_⟩
          replace hd := hd.trans hy4
          have HIC3 := Lib.hid (HIA3.out.ext hy4)
          have hx3 := hx2.trans hd
          have hz3 := hd
          clear hy3 hy4 hd
          iterate 2 (refine wpPeek_look rfl ‹_› (fun K hK => ?_); go_simp; first | (refine hK _ ?_; clear hK K) | (refine ⟨_, fun _ => rfl, hK _ ?_⟩; clear hK K))
          refine wpPeek_nil ?_
          clear hs
          go_wp2_with fail
          all_goals
            refine wp_region_peek (Ext w3) (fun _ => True) [] [.look 0, .look 1, .look 3, .look 4, .go 2, .go 5, .look 6, .look 7] (by kernel_rfl) (by kernel_rfl) (by intro c a d v w h; cases d <;> exact h) ?_
            have hd : Ext w3 { w3 with drawn := w3.drawn + 1 } := drawn_ext w3
            have hs : ∀ s : InC (Ext w3), Ext wA s.w := fun s => hx3.trans s.h
            generalize { w3 with drawn := w3.drawn + 1 } = W0 at *
            iterate 4 (refine wpPeek_look rfl ‹_› (fun K hK => ?_); go_simp; first | (refine hK _ ?_; clear hK K) | (refine ⟨_, fun _ => rfl, hK _ ?_⟩; clear hK K))
            refine wpPeek_go rfl rfl (fun K hK => ?_)
            go_wp2_with fail
            refine (HCC.out _ _ (hx3.trans hd) (HIC3.out.ext hd)).mono ?_; rintro e W1 ⟨v4, rfl, ho3, hy3⟩
            have HIA4 := Lib.hid ho3.ints
            obtain ⟨a4, c4, rfl, _⟩ := ho3.ints.open_
            clear ho3
            go_wp2_with fail
            refine ⟨KeepE.of (fun h => h.trans hy3) (fun _ => trivial), ?_⟩
            replace hd := hd.trans hy3
            refine wpPeek_go rfl rfl (fun K hK => ?_)
            go_wp2_with fail
            refine (HCD.out _ _ (hx3.trans hd) (HIB3.out.ext hd)).mono ?_; rintro e w4 ⟨u4, rfl, ho4, hy4⟩
            have HIB4 := Lib.hid ho4.ints
            obtain ⟨b4, d4, rfl, _⟩ := ho4.ints.open_
            clear ho4
            go_wp2_with fail
            refine ⟨KeepE.of (fun h => h.trans hy4) (fun _ => trivial), ?_⟩
            replace hd := hd.trans hy4
            have HIC4 := Lib.hid (HIA4.out.ext hy4)
            have hx4 := hx3.trans hd
            have hz4 := hd
            clear hy3 hy4 hd
            iterate 2 (refine wpPeek_look rfl ‹_› (fun K hK => ?_); go_simp; first | (refine hK _ ?_; clear hK K) | (refine ⟨_, fun _ => rfl, hK _ ?_⟩; clear hK K))
            refine wpPeek_nil ?_
            clear hs
            go_wp2_with fail
            all_goals
              refine (equalInts_c _ _ _ _ w4 HIC4.out HIB4.out).mono ?_; rintro e w5 ⟨rfl, n5, rfl⟩
              go_wp2_with fail
              go_ret2
              exact RV.mk rfl (hE0.trans (hx4.trans (Ext.drewN _ _)))
    · have e1 : comK x y l = validW l := by rw [HCK.out, if_pos h0, if_neg hv]
      have e2 : comB x y l = false := by rw [HCB.out, e1, if_neg hv]
      rw [e1, e2]
      have hk : (validW l != 0) = true := by simp [hv]
      generalize validW l = k at *
      clear e1 e2 h0 hv GX GY
      go_enter Try.func38, Try.ntmps38
      go_wp2_with fail
      rw [← HW.out]
      refine HT.out.mono ?_; rintro e w1 ⟨rfl, hx1⟩
      go_wp2_with fail
      refine (HVW.out w1 hx1).mono ?_; rintro e w2 ⟨rfl, hy2⟩
      have hx2 := hx1.trans hy2
      clear hx1 hy2
      go_wp2_with fail
      go_ret2
      exact RV.mk rfl (hE0.trans hx2)
  · have e1 : comK x y l = twoK x y := by rw [HCK.out, if_neg h0]
    have e2 : comB x y l = false := by rw [HCB.out, e1, if_neg h0]
    rw [e1, e2]
    have hk : (twoK x y != 0) = true := by simp [h0]
    generalize twoK x y = k at *
    clear e1 e2 h0
    go_enter Try.func38, Try.ntmps38
    go_wp2_with fail
    rw [← HW.out]
    refine HT.out.mono ?_; rintro e w1 ⟨rfl, hx1⟩
    go_wp2_with fail
    go_ret2
    exact RV.mk rfl (hE0.trans hx1)

set_option maxHeartbeats 4000000 in
set_option maxRecDepth 100000 in
theorem rCommute_c (tv lv rv tu lu ru : Value) (x y : Rul) (wv : Value) (l : List Int) (w : World) (hr : RulR w tv lv rv x) (hs : RulR w tu lu ru y) (hw : Ints w wv l) : Calls Try.prog 39 #[.agg #[.int .i64 x.f, tv, lv, rv], .agg #[.int .i64 y.f, tu, lu, ru], wv] w (RV (.tuple #[.bool (comB x y l), .int .i64 (comK x y l)]) w) := by
  obtain ⟨wA, hwA⟩ : ∃ wA, wA = (w.alloc (.cells #[.int .i64 x.f, tv, lv, rv] 24)).alloc (.cells #[.int .i64 y.f, tu, lu, ru] 24) := ⟨_, rfl⟩
  have hE0 : Ext w wA := by rw [hwA]; exact (Ext.alloc _ _).trans (Ext.alloc _ _)
  have k0 : ∀ W, Ext wA W → W.cell? ⟨w.heap.size, 0, none⟩ = some (.int .i64 x.f) := by rw [hwA]; exact kept_alloc2 w _ _ _ _ rfl
  have k1 : ∀ W, Ext wA W → W.cell? ⟨w.heap.size, 1, none⟩ = some tv := by rw [hwA]; exact kept_alloc2 w _ _ _ _ rfl
  have k2 : ∀ W, Ext wA W → W.cell? ⟨w.heap.size, 2, none⟩ = some lv := by rw [hwA]; exact kept_alloc2 w _ _ _ _ rfl
  have k3 : ∀ W, Ext wA W → W.cell? ⟨w.heap.size, 3, none⟩ = some rv := by rw [hwA]; exact kept_alloc2 w _ _ _ _ rfl
  have m0 : ∀ W, Ext wA W → W.cell? ⟨w.heap.size + 1, 0, none⟩ = some (.int .i64 y.f) := by rw [hwA]; exact kept_alloc2' w _ _ _ _ rfl
  have m1 : ∀ W, Ext wA W → W.cell? ⟨w.heap.size + 1, 1, none⟩ = some tu := by rw [hwA]; exact kept_alloc2' w _ _ _ _ rfl
  have m2 : ∀ W, Ext wA W → W.cell? ⟨w.heap.size + 1, 2, none⟩ = some lu := by rw [hwA]; exact kept_alloc2' w _ _ _ _ rfl
  have m3 : ∀ W, Ext wA W → W.cell? ⟨w.heap.size + 1, 3, none⟩ = some ru := by rw [hwA]; exact kept_alloc2' w _ _ _ _ rfl
  have H0 : Ext wA wA := Ext.refl _
  have HX := Lib.hid (hr.ext hE0)
  have HY := Lib.hid (hs.ext hE0)
  have HI := Lib.hid (hw.ext hE0)
  have HT := Lib.hid (rtwo_c tv lv rv tu lu ru x y wA HX.out HY.out)
  have HVW := Lib.hid (fun W (hW : Ext wA W) => rValidateWord_c wv l W (HI.out.ext hW))
  obtain ⟨aw, cw, rfl, _⟩ := hw.open_
  have HW := Lib.hid hwA
  have HCK := Lib.hid (show comK x y l = (if twoK x y = 0 then (if validW l = 0 then (if 8 < (allL x l).length ∨ 8 < (allL y l).length ∨ 8 < (allL y (allL x l)).length ∨ 8 < (allL x (allL y l)).length then 3 else 0) else validW l) else twoK x y) from rfl)
  have HCB := Lib.hid (show comB x y l = if comK x y l = 0 then sameIntsB (allL y (allL x l)) (allL x (allL y l)) else false from rfl)
  clear hwA hr hs hw
  by_cases h0 : twoK x y = 0
  · rw [h0] at HT
    obtain ⟨GX, GY⟩ := two_zero h0
    have HGX := Lib.hid GX; have HGY := Lib.hid GY
    by_cases hv : validW l = 0
    · obtain ⟨hw8, hws⟩ := validW_zero hv
      rw [hv] at HVW
      have HWS := Lib.hid hws
      have HSA := Lib.hid (sndB_allL (x := x) hws GX.snd)
      have HSB := Lib.hid (sndB_allL (x := y) hws GY.snd)
      have hlA := all_len x l GX.len
      have hlB := all_len y l GY.len
      have hlC := all_len y (allL x l) GY.len
      have hlD := all_len x (allL y l) GX.len
      have hck : comK x y l = if 8 < (allL x l).length ∨ 8 < (allL y l).length ∨ 8 < (allL y (allL x l)).length ∨ 8 < (allL x (allL y l)).length then 3 else 0 := by rw [HCK.out, if_pos h0, if_pos hv]
      have HCK2 := Lib.hid hck
      have HCA := Lib.hid (fun W (hW : Ext wA W) => rall_c tv lv rv _ x l W (HX.out.ext hW) (HI.out.ext hW) HGX.out.nb (by omega) HGX.out.len)
      have HCB_ := Lib.hid (fun W (hW : Ext wA W) => rall_c tu lu ru _ y l W (HY.out.ext hW) (HI.out.ext hW) HGY.out.nb (by omega) HGY.out.len)
      have HCC := Lib.hid (fun v W (hW : Ext wA W) (hi : Ints W v (allL x l)) => rall_c tu lu ru v y (allL x l) W (HY.out.ext hW) hi HGY.out.nb (by omega) HGY.out.len)
      have HCD := Lib.hid (fun v W (hW : Ext wA W) (hi : Ints W v (allL y l)) => rall_c tv lv rv v x (allL y l) W (HX.out.ext hW) hi HGX.out.nb (by omega) HGX.out.len)
      clear hck GX GY hws h0 hv HCK
      generalize hA : allL x l = A at *
      generalize hB : allL y l = B at *
      generalize hC : allL y A = C at *
      generalize hD : allL x B = D at *
      clear hA hB hC hD
      by_cases hb : 8 < A.length ∨ 8 < B.length ∨ 8 < C.length ∨ 8 < D.length
      · have HBB := Lib.hid hb
        obtain ⟨e1, e2⟩ : comK x y l = 3 ∧ comB x y l = false := by
          have e1 : comK x y l = 3 := by rw [HCK2.out, if_pos hb]
          exact ⟨e1, by rw [HCB.out, e1]; rfl⟩
        rw [e1, e2]
        clear e1 e2
        clear hb
        go_enter Try.func39, Try.ntmps39
        go_wp2_with fail
        rw [← HW.out]
        refine HT.out.mono ?_; rintro e w1 ⟨rfl, hx1⟩
        go_wp2_with fail
        refine (HVW.out w1 hx1).mono ?_; rintro e w2 ⟨rfl, hy2⟩
        have hx2 := hx1.trans hy2
        clear hx1 hy2
        go_wp2_with fail
        refine wp_region_peek (Ext w2) (fun _ => True) [] [.look 0, .look 1, .look 3, .look 4, .go 2, .go 5, .look 6, .look 7] (by kernel_rfl) (by kernel_rfl) (by intro c a d v w h; cases d <;> exact h) ?_
        have hd : Ext w2 { w2 with drawn := w2.drawn + 1 } := drawn_ext w2
        have hs : ∀ s : InC (Ext w2), Ext wA s.w := fun s => hx2.trans s.h
        generalize { w2 with drawn := w2.drawn + 1 } = W0 at *
        iterate 4 (refine wpPeek_look rfl ‹_› (fun K hK => ?_); go_simp; first | (refine hK _ ?_; clear hK K) | (refine ⟨_, fun _ => rfl, hK _ ?_⟩; clear hK K))
        refine wpPeek_go rfl rfl (fun K hK => ?_)
        go_wp2_with fail
        refine (HCA.out _ (hx2.trans hd)).mono ?_; rintro e W1 ⟨v3, rfl, ho3, hy3⟩
        have HIA3 := Lib.hid ho3.ints
        obtain ⟨a3, c3, rfl, _⟩ := ho3.ints.open_
        clear ho3
        go_wp2_with fail
        refine ⟨KeepE.of (fun h => h.trans hy3) (fun _ => trivial), ?_⟩
        replace hd := hd.trans hy3
        refine wpPeek_go rfl rfl (fun K hK => ?_)
        go_wp2_with fail
        refine (HCB_.out _ (hx2.trans hd)).mono ?_; rintro e w3 ⟨u3, rfl, ho4, hy4⟩
        have HIB3 := Lib.hid ho4.ints
        obtain ⟨b3, d3, rfl, _⟩ := ho4.ints.open_
        clear ho4
        go_wp2_with fail
        refine ⟨KeepE.of (fun h => h.trans hy4) (fun _ => trivial), ?_⟩
        replace hd := hd.trans hy4
        have HIC3 := Lib.hid (HIA3.out.ext hy4)
        have hx3 := hx2.trans hd
        have hz3 := hd
        clear hy3 hy4 hd
        iterate 2 (refine wpPeek_look rfl ‹_› (fun K hK => ?_); go_simp; first | (refine hK _ ?_; clear hK K) | (refine ⟨_, fun _ => rfl, hK _ ?_⟩; clear hK K))
        refine wpPeek_nil ?_
        clear hs
        go_wp2_with fail
        refine wp_region_peek (Ext w3) (fun _ => True) [] [.look 0, .look 1, .look 3, .look 4, .go 2, .go 5, .look 6, .look 7] (by kernel_rfl) (by kernel_rfl) (by intro c a d v w h; cases d <;> exact h) ?_
        have hd : Ext w3 { w3 with drawn := w3.drawn + 1 } := drawn_ext w3
        have hs : ∀ s : InC (Ext w3), Ext wA s.w := fun s => hx3.trans s.h
        generalize { w3 with drawn := w3.drawn + 1 } = W0 at *
        iterate 4 (refine wpPeek_look rfl ‹_› (fun K hK => ?_); go_simp; first | (refine hK _ ?_; clear hK K) | (refine ⟨_, fun _ => rfl, hK _ ?_⟩; clear hK K))
        refine wpPeek_go rfl rfl (fun K hK => ?_)
        go_wp2_with fail
        refine (HCC.out _ _ (hx3.trans hd) (HIC3.out.ext hd)).mono ?_; rintro e W1 ⟨v4, rfl, ho3, hy3⟩
        have HIA4 := Lib.hid ho3.ints
        obtain ⟨a4, c4, rfl, _⟩ := ho3.ints.open_
        clear ho3
        go_wp2_with fail
        refine ⟨KeepE.of (fun h => h.trans hy3) (fun _ => trivial), ?_⟩
        replace hd := hd.trans hy3
        refine wpPeek_go rfl rfl (fun K hK => ?_)
        go_wp2_with fail
        refine (HCD.out _ _ (hx3.trans hd) (HIB3.out.ext hd)).mono ?_; rintro e w4 ⟨u4, rfl, ho4, hy4⟩
        have HIB4 := Lib.hid ho4.ints
        obtain ⟨b4, d4, rfl, _⟩ := ho4.ints.open_
        clear ho4
        go_wp2_with fail
        refine ⟨KeepE.of (fun h => h.trans hy4) (fun _ => trivial), ?_⟩
        replace hd := hd.trans hy4
        have HIC4 := Lib.hid (HIA4.out.ext hy4)
        have hx4 := hx3.trans hd
        have hz4 := hd
        clear hy3 hy4 hd
        iterate 2 (refine wpPeek_look rfl ‹_› (fun K hK => ?_); go_simp; first | (refine hK _ ?_; clear hK K) | (refine ⟨_, fun _ => rfl, hK _ ?_⟩; clear hK K))
        refine wpPeek_nil ?_
        clear hs
        go_wp2_with fail
        all_goals first
          | (exfalso; have := HBB.out; omega)
          | (go_ret2; exact RV.mk rfl (hE0.trans hx4))
      · have HNB := Lib.hid hb
        obtain ⟨e1, e2⟩ : comK x y l = 0 ∧ comB x y l = sameIntsB C D := by
          have e1 : comK x y l = 0 := by
            rw [HCK2.out, if_neg HNB.out]
          exact ⟨e1, by rw [HCB.out, if_pos e1]⟩
        rw [e1, e2]
        clear e1 e2
        have hA8 : A.length ≤ 8 := by omega
        have hB8 : B.length ≤ 8 := by omega
        have hC8 : C.length ≤ 8 := by omega
        have hD8 : D.length ≤ 8 := by omega
        clear hb
        go_enter Try.func39, Try.ntmps39
        go_wp2_with fail
        rw [← HW.out]
        refine HT.out.mono ?_; rintro e w1 ⟨rfl, hx1⟩
        go_wp2_with fail
        refine (HVW.out w1 hx1).mono ?_; rintro e w2 ⟨rfl, hy2⟩
        have hx2 := hx1.trans hy2
        clear hx1 hy2
        go_wp2_with fail
        refine wp_region_peek (Ext w2) (fun _ => True) [] [.look 0, .look 1, .look 3, .look 4, .go 2, .go 5, .look 6, .look 7] (by kernel_rfl) (by kernel_rfl) (by intro c a d v w h; cases d <;> exact h) ?_
        have hd : Ext w2 { w2 with drawn := w2.drawn + 1 } := drawn_ext w2
        have hs : ∀ s : InC (Ext w2), Ext wA s.w := fun s => hx2.trans s.h
        generalize { w2 with drawn := w2.drawn + 1 } = W0 at *
        iterate 4 (refine wpPeek_look rfl ‹_› (fun K hK => ?_); go_simp; first | (refine hK _ ?_; clear hK K) | (refine ⟨_, fun _ => rfl, hK _ ?_⟩; clear hK K))
        refine wpPeek_go rfl rfl (fun K hK => ?_)
        go_wp2_with fail
        refine (HCA.out _ (hx2.trans hd)).mono ?_; rintro e W1 ⟨v3, rfl, ho3, hy3⟩
        have HIA3 := Lib.hid ho3.ints
        obtain ⟨a3, c3, rfl, _⟩ := ho3.ints.open_
        clear ho3
        go_wp2_with fail
        refine ⟨KeepE.of (fun h => h.trans hy3) (fun _ => trivial), ?_⟩
        replace hd := hd.trans hy3
        refine wpPeek_go rfl rfl (fun K hK => ?_)
        go_wp2_with fail
        refine (HCB_.out _ (hx2.trans hd)).mono ?_; rintro e w3 ⟨u3, rfl, ho4, hy4⟩
        have HIB3 := Lib.hid ho4.ints
        obtain ⟨b3, d3, rfl, _⟩ := ho4.ints.open_
        clear ho4
        go_wp2_with fail
        refine ⟨KeepE.of (fun h => h.trans hy4) (fun _ => trivial), ?_⟩
        replace hd := hd.trans hy4
        have HIC3 := Lib.hid (HIA3.out.ext hy4)
        have hx3 := hx2.trans hd
        have hz3 := hd
        clear hy3 hy4 hd
        iterate 2 (refine wpPeek_look rfl ‹_› (fun K hK => ?_); go_simp; first | (refine hK _ ?_; clear hK K) | (refine ⟨_, fun _ => rfl, hK _ ?_⟩; clear hK K))
        refine wpPeek_nil ?_
        clear hs
        go_wp2_with fail
        refine wp_region_peek (Ext w3) (fun _ => True) [] [.look 0, .look 1, .look 3, .look 4, .go 2, .go 5, .look 6, .look 7] (by kernel_rfl) (by kernel_rfl) (by intro c a d v w h; cases d <;> exact h) ?_
        have hd : Ext w3 { w3 with drawn := w3.drawn + 1 } := drawn_ext w3
        have hs : ∀ s : InC (Ext w3), Ext wA s.w := fun s => hx3.trans s.h
        generalize { w3 with drawn := w3.drawn + 1 } = W0 at *
        iterate 4 (refine wpPeek_look rfl ‹_› (fun K hK => ?_); go_simp; first | (refine hK _ ?_; clear hK K) | (refine ⟨_, fun _ => rfl, hK _ ?_⟩; clear hK K))
        refine wpPeek_go rfl rfl (fun K hK => ?_)
        go_wp2_with fail
        refine (HCC.out _ _ (hx3.trans hd) (HIC3.out.ext hd)).mono ?_; rintro e W1 ⟨v4, rfl, ho3, hy3⟩
        have HIA4 := Lib.hid ho3.ints
        obtain ⟨a4, c4, rfl, _⟩ := ho3.ints.open_
        clear ho3
        go_wp2_with fail
        refine ⟨KeepE.of (fun h => h.trans hy3) (fun _ => trivial), ?_⟩
        replace hd := hd.trans hy3
        refine wpPeek_go rfl rfl (fun K hK => ?_)
        go_wp2_with fail
        refine (HCD.out _ _ (hx3.trans hd) (HIB3.out.ext hd)).mono ?_; rintro e w4 ⟨u4, rfl, ho4, hy4⟩
        have HIB4 := Lib.hid ho4.ints
        obtain ⟨b4, d4, rfl, _⟩ := ho4.ints.open_
        clear ho4
        go_wp2_with fail
        refine ⟨KeepE.of (fun h => h.trans hy4) (fun _ => trivial), ?_⟩
        replace hd := hd.trans hy4
        have HIC4 := Lib.hid (HIA4.out.ext hy4)
        have hx4 := hx3.trans hd
        have hz4 := hd
        clear hy3 hy4 hd
        iterate 2 (refine wpPeek_look rfl ‹_› (fun K hK => ?_); go_simp; first | (refine hK _ ?_; clear hK K) | (refine ⟨_, fun _ => rfl, hK _ ?_⟩; clear hK K))
        refine wpPeek_nil ?_
        clear hs
        go_wp2_with fail
        refine (sameInts_c _ _ _ _ w4 HIC4.out HIB4.out).mono ?_; rintro e w5 ⟨rfl, n5, rfl⟩
        go_wp2_with fail
        go_ret2
        exact RV.mk rfl (hE0.trans (hx4.trans (Ext.drewN _ _)))
    · have e1 : comK x y l = validW l := by rw [HCK.out, if_pos h0, if_neg hv]
      have e2 : comB x y l = false := by rw [HCB.out, e1, if_neg hv]
      rw [e1, e2]
      have hk : (validW l != 0) = true := by simp [hv]
      generalize validW l = k at *
      clear e1 e2 h0 hv GX GY
      go_enter Try.func39, Try.ntmps39
      go_wp2_with fail
      rw [← HW.out]
      refine HT.out.mono ?_; rintro e w1 ⟨rfl, hx1⟩
      go_wp2_with fail
      refine (HVW.out w1 hx1).mono ?_; rintro e w2 ⟨rfl, hy2⟩
      have hx2 := hx1.trans hy2
      clear hx1 hy2
      go_wp2_with fail
      go_ret2
      exact RV.mk rfl (hE0.trans hx2)
  · have e1 : comK x y l = twoK x y := by rw [HCK.out, if_neg h0]
    have e2 : comB x y l = false := by rw [HCB.out, e1, if_neg h0]
    rw [e1, e2]
    have hk : (twoK x y != 0) = true := by simp [h0]
    generalize twoK x y = k at *
    clear e1 e2 h0
    go_enter Try.func39, Try.ntmps39
    go_wp2_with fail
    rw [← HW.out]
    refine HT.out.mono ?_; rintro e w1 ⟨rfl, hx1⟩
    go_wp2_with fail
    go_ret2
    exact RV.mk rfl (hE0.trans hx1)
end Go.Proofs.Ytojbamejhlaahaa

