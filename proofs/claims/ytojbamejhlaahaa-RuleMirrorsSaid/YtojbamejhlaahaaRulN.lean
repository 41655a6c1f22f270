/- How long a rule is; words turned round; the mirrored rule of the program. -/
import Derived.Test.YtojbamejhlaahaaLaw2
import Derived.Test.YtojbamejhlaahaaRev
namespace Go.Proofs.Ytojbamejhlaahaa
open Go.RowKit Go.Shelf
set_option linter.unusedVariables false

def measV (x : Rul) : Int := if validR x = 0 then (((lng x : Int) + x.t.length) + x.l.length) + x.r.length else 0
theorem longR_le {x : Rul} (h : longR x = false) : x.t.length ≤ 100 ∧ x.l.length ≤ 100 ∧ x.r.length ≤ 100 := by
  simp only [longR, Bool.or_eq_false_iff, decide_eq_false_iff_not] at h
  omega

set_option maxHeartbeats 1000000 in
set_option maxRecDepth 100000 in
theorem Measure_c (tv lv rv : Value) (x : Rul) (w : World) (h : RulR w tv lv rv x) (hb : longR x = false) : Calls Try.prog 35 #[.agg #[.int .i64 x.f, tv, lv, rv]] w (RV (.tuple #[.int .i64 (measV x), .int .i64 (validR x)]) w) := by
  obtain ⟨wA, hwA⟩ : ∃ wA, wA = w.alloc (.cells #[.int .i64 x.f, tv, lv, rv] 24) := ⟨_, rfl⟩
  have hE0 : Ext w wA := by rw [hwA]; exact Ext.alloc _ _
  have k0 : ∀ W, Ext wA W → W.cell? ⟨w.heap.size, 0, none⟩ = some (.int .i64 x.f) := by rw [hwA]; exact kept_alloc w _ _ rfl
  have k1 : ∀ W, Ext wA W → W.cell? ⟨w.heap.size, 1, none⟩ = some tv := by rw [hwA]; exact kept_alloc w _ _ rfl
  have k2 : ∀ W, Ext wA W → W.cell? ⟨w.heap.size, 2, none⟩ = some lv := by rw [hwA]; exact kept_alloc w _ _ rfl
  have k3 : ∀ W, Ext wA W → W.cell? ⟨w.heap.size, 3, none⟩ = some rv := by rw [hwA]; exact kept_alloc w _ _ rfl
  have H0 : Ext wA wA := Ext.refl _
  have HV := Lib.hid (Validate_c tv lv rv x wA (h.ext hE0))
  obtain ⟨at_, ct, rfl, _⟩ := h.t.open_
  obtain ⟨al_, cl, rfl, _⟩ := h.l.open_
  obtain ⟨ar_, cr, rfl, _⟩ := h.r.open_
  obtain ⟨hbt, hbl, hbr⟩ := longR_le hb
  have hlg := lng_le x
  have HW := Lib.hid hwA; clear hwA h hb
  by_cases h0 : validR x = 0
  · have hm : measV x = (((lng x : Int) + x.t.length) + x.l.length) + x.r.length := by rw [measV, if_pos h0]
    rw [h0] at HV ⊢
    rw [hm]
    clear hm
    have HVZ := Lib.hid h0; clear h0
    have e1 : IntKind.i64.wrap ((lng x : Int) + x.t.length) = (lng x : Int) + x.t.length := IntWalk.i64_in _ (by omega)
    have e2 : IntKind.i64.wrap (((lng x : Int) + x.t.length) + x.l.length) = ((lng x : Int) + x.t.length) + x.l.length := IntWalk.i64_in _ (by omega)
    have e3 : IntKind.i64.wrap ((((lng x : Int) + x.t.length) + x.l.length) + x.r.length) = (((lng x : Int) + x.t.length) + x.l.length) + x.r.length := IntWalk.i64_in _ (by omega)
    go_enter Try.func35, Try.ntmps35
    go_wp2_with fail
    rw [← HW.out]
    refine HV.out.mono ?_; rintro e w1 ⟨rfl, hx1⟩
    have hs : ∀ s : Later w1, Ext wA s.w := fun s => hx1.trans s.ext
    go_wp2_with fail
    refine wp_region_later (by kernel_rfl) (by kernel_rfl) ?_
    repeat (go_big_quiet_step (first | (go_at_call 64; first | with_reducible exact Later.call (long_c _ _ _ _ _))))
    refine wpQuiet_nil ?_
    intro w5 hw'
    obtain ⟨⟨_, hx5⟩, rfl⟩ := hw'
    clear hs
    go_wp2_with fail
    go_ret2
    exact RV.mk rfl (hE0.trans (hx1.trans hx5))
  · have hm : measV x = 0 := by rw [measV, if_neg h0]
    have hk : (validR x != 0) = true := by simp [h0]
    rw [hm]
    generalize validR x = k at *
    clear hm h0
    go_enter Try.func35, Try.ntmps35
    go_wp2_with fail
    rw [← HW.out]
    refine HV.out.mono ?_; rintro e w1 ⟨rfl, hx1⟩
    go_wp2_with fail
    go_ret2
    exact RV.mk rfl (hE0.trans hx1)

set_option maxHeartbeats 1000000 in
set_option maxRecDepth 100000 in
theorem rMeasure_c (tv lv rv : Value) (x : Rul) (w : World) (h : RulR w tv lv rv x) (hb : longR x = false) : Calls Try.prog 36 #[.agg #[.int .i64 x.f, tv, lv, rv]] w (RV (.tuple #[.int .i64 (measV x), .int .i64 (validR x)]) w) := by
  obtain ⟨wA, hwA⟩ : ∃ wA, wA = w.alloc (.cells #[.int .i64 x.f, tv, lv, rv] 24) := ⟨_, rfl⟩
  have hE0 : Ext w wA := by rw [hwA]; exact Ext.alloc _ _
  have k0 : ∀ W, Ext wA W → W.cell? ⟨w.heap.size, 0, none⟩ = some (.int .i64 x.f) := by rw [hwA]; exact kept_alloc w _ _ rfl
  have k1 : ∀ W, Ext wA W → W.cell? ⟨w.heap.size, 1, none⟩ = some tv := by rw [hwA]; exact kept_alloc w _ _ rfl
  have k2 : ∀ W, Ext wA W → W.cell? ⟨w.heap.size, 2, none⟩ = some lv := by rw [hwA]; exact kept_alloc w _ _ rfl
  have k3 : ∀ W, Ext wA W → W.cell? ⟨w.heap.size, 3, none⟩ = some rv := by rw [hwA]; exact kept_alloc w _ _ rfl
  have H0 : Ext wA wA := Ext.refl _
  have HV := Lib.hid (rValidate_c tv lv rv x wA (h.ext hE0))
  obtain ⟨at_, ct, rfl, _⟩ := h.t.open_
  obtain ⟨al_, cl, rfl, _⟩ := h.l.open_
  obtain ⟨ar_, cr, rfl, _⟩ := h.r.open_
  obtain ⟨hbt, hbl, hbr⟩ := longR_le hb
  have hlg := lng_le x
  have HW := Lib.hid hwA; clear hwA h hb
  by_cases h0 : validR x = 0
  · have hm : measV x = (((lng x : Int) + x.t.length) + x.l.length) + x.r.length := by rw [measV, if_pos h0]
    rw [h0] at HV ⊢
    rw [hm]
    clear hm
    have HVZ := Lib.hid h0; clear h0
    have e1 : IntKind.i64.wrap ((x.t.length : Int) + x.l.length) = (x.t.length : Int) + x.l.length := IntWalk.i64_in _ (by omega)
    have e2 : IntKind.i64.wrap (((x.t.length : Int) + x.l.length) + x.r.length) = ((x.t.length : Int) + x.l.length) + x.r.length := IntWalk.i64_in _ (by omega)
    have e3 : IntKind.i64.wrap ((((x.t.length : Int) + x.l.length) + x.r.length) + 1) = (((x.t.length : Int) + x.l.length) + x.r.length) + 1 := IntWalk.i64_in _ (by omega)
    have hnb := (validR_zero HVZ.out).nb
    by_cases hf : x.f = -1
    · have hl0 : lng x = 0 := by simp [lng, hf]
      have hsum : (((lng x : Int) + x.t.length) + x.l.length) + x.r.length = ((x.t.length : Int) + x.l.length) + x.r.length := by rw [hl0]; omega
      have hfd : ¬ (0 : Int) ≤ x.f := by omega
      rw [hsum]
      clear hf hl0 hsum hnb
      go_enter Try.func36, Try.ntmps36
      go_wp2_with fail
      rw [← HW.out]
      refine HV.out.mono ?_; rintro e w1 ⟨rfl, hx1⟩
      go_wp2_with fail
      go_ret2
      exact RV.mk rfl (hE0.trans hx1)
    · have hl0 : lng x = 1 := by simp [lng, hf]
      have hsum : (((lng x : Int) + x.t.length) + x.l.length) + x.r.length = (((x.t.length : Int) + x.l.length) + x.r.length) + 1 := by rw [hl0]; omega
      have hfd : (0 : Int) ≤ x.f := by simp [nbB, inB, hf] at hnb; omega
      rw [hsum]
      clear hf hl0 hsum hnb
      go_enter Try.func36, Try.ntmps36
      go_wp2_with fail
      rw [← HW.out]
      refine HV.out.mono ?_; rintro e w1 ⟨rfl, hx1⟩
      go_wp2_with fail
      go_ret2
      exact RV.mk rfl (hE0.trans hx1)
  · have hm : measV x = 0 := by rw [measV, if_neg h0]
    have hk : (validR x != 0) = true := by simp [h0]
    rw [hm]
    generalize validR x = k at *
    clear hm h0
    go_enter Try.func36, Try.ntmps36
    go_wp2_with fail
    rw [← HW.out]
    refine HV.out.mono ?_; rintro e w1 ⟨rfl, hx1⟩
    go_wp2_with fail
    go_ret2
    exact RV.mk rfl (hE0.trans hx1)

theorem back_c (v : Value) (l : List Int) (w : World) (h : Ints w v l) (hl : l.length ≤ 1000) : Calls Try.prog 84 #[v] w (ROInts 3 l.reverse w) := by
  have HI := Lib.hid h; clear h
  go_enter Try.func84, Try.ntmps84
  go_wp2_with fail
  refine (cloneInts_c _ l w HI.out (by omega)).mono ?_; rintro e w1 ⟨v1, rfl, ho1, hx1⟩
  have HO1 := Lib.hid ho1; clear ho1
  go_wp2_with fail
  refine (reverse_c v1 l w1 _ HO1.out).mono ?_; rintro e w2 ⟨rfl, ho2, hup⟩
  have hx2 := hup w hx1 (Nat.le_refl _)
  have HO2 := Lib.hid ho2; clear ho2 hup HO1 hx1
  go_wp2_with fail
  go_ret
  exact ⟨_, rfl, HO2.out, hx2⟩
end Go.Proofs.Ytojbamejhlaahaa

