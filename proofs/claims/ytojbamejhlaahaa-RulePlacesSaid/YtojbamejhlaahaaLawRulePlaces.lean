/- RulePlaces: for every input the call returns true. No condition. -/
import Derived.Test.YtojbamejhlaahaaLaw2
namespace Go.Proofs.Ytojbamejhlaahaa
open Go.RowKit Go.Shelf
set_option linter.unusedVariables false
theorem sameInts_same (va vb : Value) (a : List Int) (w : World) (ha : Ints w va a) (hb : Ints w vb a) : Calls Try.prog 22 #[va, vb] w (RQ true w) := by have := sameInts_c va vb a a w ha hb; rwa [sameIntsB_refl] at this

set_option maxHeartbeats 2000000 in
set_option maxRecDepth 100000 in
theorem rulePlaces_c (tv lv rv : Value) (x : Rul) (wv : Value) (l : List Int) (w : World) (h : RulR w tv lv rv x) (hw : Ints w wv l) :
    Calls Try.prog 4 #[.agg #[.int .i64 x.f, tv, lv, rv], wv] w (RV (.bool true) w) := by
  obtain ⟨wA, hwA⟩ : ∃ wA, wA = w.alloc (.cells #[.int .i64 x.f, tv, lv, rv] 24) := ⟨_, rfl⟩
  have hE0 : Ext w wA := by rw [hwA]; exact Ext.alloc _ _
  have k0 : ∀ W, Ext wA W → W.cell? ⟨w.heap.size, 0, none⟩ = some (.int .i64 x.f) := by rw [hwA]; exact kept_alloc w _ _ rfl
  have k1 : ∀ W, Ext wA W → W.cell? ⟨w.heap.size, 1, none⟩ = some tv := by rw [hwA]; exact kept_alloc w _ _ rfl
  have k2 : ∀ W, Ext wA W → W.cell? ⟨w.heap.size, 2, none⟩ = some lv := by rw [hwA]; exact kept_alloc w _ _ rfl
  have k3 : ∀ W, Ext wA W → W.cell? ⟨w.heap.size, 3, none⟩ = some rv := by rw [hwA]; exact kept_alloc w _ _ rfl
  have H0 : Ext wA wA := Ext.refl _
  have HR := Lib.hid (h.ext hE0)
  have HLG := Lib.hid (Long_c tv lv rv x wA (h.ext hE0))
  have HI := Lib.hid (hw.ext hE0)
  have HLA := Lib.hid (fun W (hW : Ext wA W) => large_c wv l W (HI.out.ext hW))
  obtain ⟨aw, cw, rfl, _⟩ := hw.open_
  have hb2 : decide (100 < l.length) = false → l.length ≤ 100 := fun h => by simpa using h
  have HB2 := Lib.hid hb2; clear hb2
  have HW := Lib.hid hwA; clear hwA h hw
  generalize longR x = b1 at *
  generalize decide (100 < l.length) = b2 at *
  cases b1
  · cases b2
    · have hll := HB2.out rfl
      go_enter Try.func4, Try.ntmps4
      go_wp2_with fail
      rw [← HW.out]
      refine HLG.out.mono ?_; rintro e w1 ⟨rfl, hx1⟩
      go_wp2_with fail
      refine (HLA.out w1 hx1).mono ?_; rintro e w2 ⟨rfl, hy2⟩
      have hx2 := hx1.trans hy2
      clear hx1 hy2
      clear HLA HLG HB2
      go_wp2_with fail
      refine (Places_c tv lv rv _ x l w2 (HR.out.ext hx2) (HI.out.ext hx2)).mono ?_; rintro e w3 ⟨v3, rfl, ho, hy3⟩
      have HI3 := Lib.hid ho.ints; clear ho
      have hx3 := hx2.trans hy3
      go_wp2_with fail
      refine (rPlaces_c tv lv rv _ x l w3 (HR.out.ext hx3) (HI.out.ext hx3)).mono ?_; rintro e w4 ⟨v4, rfl, ho, hy4⟩
      have HI4 := Lib.hid ho.ints; clear ho
      have hx4 := hx3.trans hy4
      go_wp2_with fail
      generalize plL x l = L at *
      generalize plK x l = K at *
      have hs : ∀ s : Later w4, Ext wA s.w := fun s => hx4.trans s.ext
      have HV := Lib.hid (fun s : Later w4 => Validate_c tv lv rv x s.w (HR.out.ext (hs s)))
      have HRV := Lib.hid (fun s : Later w4 => rValidate_c tv lv rv x s.w (HR.out.ext (hs s)))
      have HVW := Lib.hid (fun s : Later w4 => ValidateWord_c _ l s.w (HI.out.ext (hs s)))
      have HRW := Lib.hid (fun s : Later w4 => rValidateWord_c _ l s.w (HI.out.ext (hs s)))
      have HSA := Lib.hid (fun s : Later w4 => sameInts_same v3 v4 L s.w (HI3.out.ext (hy4.trans s.ext)) (HI4.out.ext s.ext))
      generalize validR x = kr at *
      generalize validW l = kw at *
      refine wp_region_later (by kernel_rfl) (by kernel_rfl) ?_
      repeat (go_big_quiet_step (first | (go_at_call 26; with_reducible exact Later.call (HV.out _)) | (go_at_call 27; with_reducible exact Later.call (HRV.out _)) | (go_at_call 28; with_reducible exact Later.call (HVW.out _)) | (go_at_call 29; with_reducible exact Later.call (HRW.out _)) | (go_at_call 22; with_reducible exact Later.callQ (HSA.out _)) | (go_at_call 19; with_reducible exact Later.call (known_c _))))
      refine wpQuiet_nil ?_
      intro w5 hw'
      obtain ⟨⟨_, hx5⟩, rfl⟩ := hw'
      clear hs
      go_wp2_with fail
      go_ret
      exact RV.bool rfl (hE0.trans (hx4.trans hx5))
    · go_enter Try.func4, Try.ntmps4
      go_wp2_with fail
      rw [← HW.out]
      refine HLG.out.mono ?_; rintro e w1 ⟨rfl, hx1⟩
      go_wp2_with fail
      refine (HLA.out w1 hx1).mono ?_; rintro e w2 ⟨rfl, hy2⟩
      have hx2 := hx1.trans hy2
      clear hx1 hy2
      go_wp2_with fail
      refine (known_c _).mono ?_; rintro e w3 ⟨rfl, hx3⟩
      go_wp2_with fail
      go_ret
      exact RV.bool rfl (hE0.trans (hx2.trans hx3))
  · go_enter Try.func4, Try.ntmps4
    go_wp2_with fail
    rw [← HW.out]
    refine HLG.out.mono ?_; rintro e w1 ⟨rfl, hx1⟩
    go_wp2_with fail
    refine (known_c _).mono ?_; rintro e w3 ⟨rfl, hx3⟩
    go_wp2_with fail
    go_ret
    exact RV.bool rfl (hE0.trans (hx1.trans hx3))
end Go.Proofs.Ytojbamejhlaahaa

