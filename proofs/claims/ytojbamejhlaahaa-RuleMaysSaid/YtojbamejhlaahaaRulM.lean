/- Which neighbors may be on a side; both packages. -/
import Derived.Test.YtojbamejhlaahaaRulB
namespace Go.Proofs.Ytojbamejhlaahaa
open Go.RowKit Go.Shelf
set_option linter.unusedVariables false

def mayK (x : Rul) (s n : Int) : Int := if validR x = 0 then (if (inB s 0 1 && nbB n) = true then 0 else 1) else validR x
def mayV (x : Rul) (s n : Int) : Bool := if validR x = 0 then (if (inB s 0 1 && nbB n) = true then (if s = 0 then mayB x.l n else mayB x.r n) else false) else false
theorem nb_in (n : Int) : inB n (-1) 5 = nbB n := by
  rw [Bool.eq_iff_iff]; simp [inB, nbB]; omega
theorem nb_le {n : Int} (h : nbB n = true) : -1 ≤ n ∧ n ≤ 5 := by
  rw [← nb_in] at h; simpa [inB] using h

set_option maxHeartbeats 1000000 in
theorem May_c (tv lv rv : Value) (x : Rul) (s n : Int) (w : World) (h : RulR w tv lv rv x) : Calls Try.prog 33 #[.agg #[.int .i64 x.f, tv, lv, rv], .int .i64 s, .int .i64 n] w (RV (.tuple #[.bool (mayV x s n), .int .i64 (mayK x s n)]) w) := by
  obtain ⟨wA, hwA⟩ : ∃ wA, wA = w.alloc (.cells #[.int .i64 x.f, tv, lv, rv] 24) := ⟨_, rfl⟩
  have hE0 : Ext w wA := by rw [hwA]; exact Ext.alloc _ _
  have k0 : ∀ W, Ext wA W → W.cell? ⟨w.heap.size, 0, none⟩ = some (.int .i64 x.f) := by rw [hwA]; exact kept_alloc w _ _ rfl
  have k1 : ∀ W, Ext wA W → W.cell? ⟨w.heap.size, 1, none⟩ = some tv := by rw [hwA]; exact kept_alloc w _ _ rfl
  have k2 : ∀ W, Ext wA W → W.cell? ⟨w.heap.size, 2, none⟩ = some lv := by rw [hwA]; exact kept_alloc w _ _ rfl
  have k3 : ∀ W, Ext wA W → W.cell? ⟨w.heap.size, 3, none⟩ = some rv := by rw [hwA]; exact kept_alloc w _ _ rfl
  have H0 : Ext wA wA := Ext.refl _
  have HR := Lib.hid (h.ext hE0)
  have HV := Lib.hid (Validate_c tv lv rv x wA (h.ext hE0))
  have HW := Lib.hid hwA; clear hwA h
  by_cases h0 : validR x = 0
  · rw [h0] at HV
    cases hs : inB s 0 1
    · have hk : mayK x s n = 1 := by simp [mayK, h0, hs]
      have hv : mayV x s n = false := by simp [mayV, hs]
      rw [hk, hv]
      clear hk hv h0
      have HS := Lib.hid hs; clear hs
      go_enter Try.func33, Try.ntmps33
      go_wp2_with fail
      rw [← HW.out]
      refine HV.out.mono ?_; rintro e w1 ⟨rfl, hx1⟩
      go_wp2_with fail
      refine (within_c _ 0 1 w1).mono ?_; rw [HS.out]; rintro e w2 ⟨rfl, hx2⟩
      have hX2 := hx1.trans hx2
      go_wp2_with fail
      go_ret2
      exact RV.mk rfl (hE0.trans hX2)
    · cases hn : nbB n
      · have hk : mayK x s n = 1 := by simp [mayK, h0, hn]
        have hv : mayV x s n = false := by simp [mayV, hn]
        rw [hk, hv]
        clear hk hv h0
        have HS := Lib.hid hs; have HN := Lib.hid hn; clear hs hn
        go_enter Try.func33, Try.ntmps33
        go_wp2_with fail
        rw [← HW.out]
        refine HV.out.mono ?_; rintro e w1 ⟨rfl, hx1⟩
        go_wp2_with fail
        refine (within_c _ 0 1 w1).mono ?_; rw [HS.out]; rintro e w2 ⟨rfl, hx2⟩
        have hX2 := hx1.trans hx2
        go_wp2_with fail
        refine (isNeighbor_c n w2).mono ?_; rw [HN.out]; rintro e w3 ⟨rfl, hx3⟩
        have hX3 := hX2.trans hx3
        go_wp2_with fail
        go_ret2
        exact RV.mk rfl (hE0.trans hX3)
      · have hn5 := nb_le hn
        have hk : mayK x s n = 0 := by simp [mayK, h0, hn, hs]
        by_cases hz : s = 0
        · subst hz
          have hv : mayV x 0 n = mayB x.l n := by simp [mayV, h0, hn, hs]
          rw [hk, hv]
          clear hk hv h0
          have HS := Lib.hid hs; have HN := Lib.hid hn; clear hs hn
          go_enter Try.func33, Try.ntmps33
          go_wp2_with fail
          rw [← HW.out]
          refine HV.out.mono ?_; rintro e w1 ⟨rfl, hx1⟩
          go_wp2_with fail
          refine (within_c _ 0 1 w1).mono ?_; rw [HS.out]; rintro e w2 ⟨rfl, hx2⟩
          have hX2 := hx1.trans hx2
          go_wp2_with fail
          refine (isNeighbor_c n w2).mono ?_; rw [HN.out]; rintro e w3 ⟨rfl, hx3⟩
          have hX3 := hX2.trans hx3
          go_wp2_with fail
          refine (of_c lv x.l w3 (HR.out.l.ext hX3)).mono ?_; rintro e w4 ⟨rfl, hx4⟩
          have hX4 := hX3.trans hx4
          go_wp2_with fail
          refine (may_c x.l n w4 hn5.1 hn5.2).mono ?_; rintro e w5 ⟨rfl, hx5⟩
          go_wp2_with fail
          go_ret2
          exact RV.mk rfl (hE0.trans (hX4.trans hx5))
        · have hv : mayV x s n = mayB x.r n := by simp [mayV, h0, hn, hs, hz]
          rw [hk, hv]
          have hzd : (s == (0 : Int)) = false := by simp [hz]
          clear hk hv h0 hz
          have HS := Lib.hid hs; have HN := Lib.hid hn; clear hs hn
          go_enter Try.func33, Try.ntmps33
          go_wp2_with fail
          rw [← HW.out]
          refine HV.out.mono ?_; rintro e w1 ⟨rfl, hx1⟩
          go_wp2_with fail
          refine (within_c _ 0 1 w1).mono ?_; rw [HS.out]; rintro e w2 ⟨rfl, hx2⟩
          have hX2 := hx1.trans hx2
          go_wp2_with fail
          refine (isNeighbor_c n w2).mono ?_; rw [HN.out]; rintro e w3 ⟨rfl, hx3⟩
          have hX3 := hX2.trans hx3
          go_wp2_with fail
          refine (of_c rv x.r w3 (HR.out.r.ext hX3)).mono ?_; rintro e w4 ⟨rfl, hx4⟩
          have hX4 := hX3.trans hx4
          go_wp2_with fail
          refine (may_c x.r n w4 hn5.1 hn5.2).mono ?_; rintro e w5 ⟨rfl, hx5⟩
          go_wp2_with fail
          go_ret2
          exact RV.mk rfl (hE0.trans (hX4.trans hx5))
  · have hk : mayK x s n = validR x := by simp [mayK, h0]
    have hv : mayV x s n = false := by simp [mayV, h0]
    rw [hk, hv]
    have hkk : (validR x != 0) = true := by simp [h0]
    generalize validR x = k at *
    clear h0 hk hv
    go_enter Try.func33, Try.ntmps33
    go_wp2_with fail
    rw [← HW.out]
    refine HV.out.mono ?_; rintro e w1 ⟨rfl, hx1⟩
    go_wp2_with fail
    go_ret2
    exact RV.mk rfl (hE0.trans hx1)

set_option maxHeartbeats 1000000 in
theorem rMay_c (tv lv rv : Value) (x : Rul) (s n : Int) (w : World) (h : RulR w tv lv rv x) : Calls Try.prog 34 #[.agg #[.int .i64 x.f, tv, lv, rv], .int .i64 s, .int .i64 n] w (RV (.tuple #[.bool (mayV x s n), .int .i64 (mayK x s n)]) w) := by
  obtain ⟨wA, hwA⟩ : ∃ wA, wA = w.alloc (.cells #[.int .i64 x.f, tv, lv, rv] 24) := ⟨_, rfl⟩
  have hE0 : Ext w wA := by rw [hwA]; exact Ext.alloc _ _
  have k0 : ∀ W, Ext wA W → W.cell? ⟨w.heap.size, 0, none⟩ = some (.int .i64 x.f) := by rw [hwA]; exact kept_alloc w _ _ rfl
  have k1 : ∀ W, Ext wA W → W.cell? ⟨w.heap.size, 1, none⟩ = some tv := by rw [hwA]; exact kept_alloc w _ _ rfl
  have k2 : ∀ W, Ext wA W → W.cell? ⟨w.heap.size, 2, none⟩ = some lv := by rw [hwA]; exact kept_alloc w _ _ rfl
  have k3 : ∀ W, Ext wA W → W.cell? ⟨w.heap.size, 3, none⟩ = some rv := by rw [hwA]; exact kept_alloc w _ _ rfl
  have H0 : Ext wA wA := Ext.refl _
  have HR := Lib.hid (h.ext hE0)
  have HV := Lib.hid (rValidate_c tv lv rv x wA (h.ext hE0))
  have HW := Lib.hid hwA; clear hwA h
  by_cases h0 : validR x = 0
  · rw [h0] at HV
    cases hs : inB s 0 1
    · have hk : mayK x s n = 1 := by simp [mayK, h0, hs]
      have hv : mayV x s n = false := by simp [mayV, hs]
      rw [hk, hv]
      clear hk hv h0
      have HS := Lib.hid hs; clear hs
      go_enter Try.func34, Try.ntmps34
      go_wp2_with fail
      rw [← HW.out]
      refine HV.out.mono ?_; rintro e w1 ⟨rfl, hx1⟩
      go_wp2_with fail
      refine (rwithin_c _ 0 1 w1).mono ?_; rw [HS.out]; rintro e w2 ⟨rfl, hx2⟩
      have hX2 := hx1.trans hx2
      go_wp2_with fail
      go_ret2
      exact RV.mk rfl (hE0.trans hX2)
    · cases hn : nbB n
      · have hk : mayK x s n = 1 := by simp [mayK, h0, hn]
        have hv : mayV x s n = false := by simp [mayV, hn]
        rw [hk, hv]
        clear hk hv h0
        have HS := Lib.hid hs; have HN := Lib.hid hn; clear hs hn
        go_enter Try.func34, Try.ntmps34
        go_wp2_with fail
        rw [← HW.out]
        refine HV.out.mono ?_; rintro e w1 ⟨rfl, hx1⟩
        go_wp2_with fail
        refine (rwithin_c _ 0 1 w1).mono ?_; rw [HS.out]; rintro e w2 ⟨rfl, hx2⟩
        have hX2 := hx1.trans hx2
        go_wp2_with fail
        refine (rwithin_c n (-1) 5 w2).mono ?_; rw [nb_in, HN.out]; rintro e w3 ⟨rfl, hx3⟩
        have hX3 := hX2.trans hx3
        go_wp2_with fail
        go_ret2
        exact RV.mk rfl (hE0.trans hX3)
      · have hn5 := nb_le hn
        have hk : mayK x s n = 0 := by simp [mayK, h0, hn, hs]
        by_cases hz : s = 0
        · subst hz
          have hv : mayV x 0 n = mayB x.l n := by simp [mayV, h0, hn, hs]
          rw [hk, hv]
          clear hk hv h0
          have HS := Lib.hid hs; have HN := Lib.hid hn; clear hs hn
          go_enter Try.func34, Try.ntmps34
          go_wp2_with fail
          rw [← HW.out]
          refine HV.out.mono ?_; rintro e w1 ⟨rfl, hx1⟩
          go_wp2_with fail
          refine (rwithin_c _ 0 1 w1).mono ?_; rw [HS.out]; rintro e w2 ⟨rfl, hx2⟩
          have hX2 := hx1.trans hx2
          go_wp2_with fail
          refine (rwithin_c n (-1) 5 w2).mono ?_; rw [nb_in, HN.out]; rintro e w3 ⟨rfl, hx3⟩
          have hX3 := hX2.trans hx3
          go_wp2_with fail
          refine (rmay_c lv x.l n w3 (HR.out.l.ext hX3)).mono ?_; rintro e w5 ⟨rfl, hx5⟩
          go_wp2_with fail
          go_ret2
          exact RV.mk rfl (hE0.trans (hX3.trans hx5))
        · have hv : mayV x s n = mayB x.r n := by simp [mayV, h0, hn, hs, hz]
          rw [hk, hv]
          have hzd : (s == (0 : Int)) = false := by simp [hz]
          clear hk hv h0 hz
          have HS := Lib.hid hs; have HN := Lib.hid hn; clear hs hn
          go_enter Try.func34, Try.ntmps34
          go_wp2_with fail
          rw [← HW.out]
          refine HV.out.mono ?_; rintro e w1 ⟨rfl, hx1⟩
          go_wp2_with fail
          refine (rwithin_c _ 0 1 w1).mono ?_; rw [HS.out]; rintro e w2 ⟨rfl, hx2⟩
          have hX2 := hx1.trans hx2
          go_wp2_with fail
          refine (rwithin_c n (-1) 5 w2).mono ?_; rw [nb_in, HN.out]; rintro e w3 ⟨rfl, hx3⟩
          have hX3 := hX2.trans hx3
          go_wp2_with fail
          refine (rmay_c rv x.r n w3 (HR.out.r.ext hX3)).mono ?_; rintro e w5 ⟨rfl, hx5⟩
          go_wp2_with fail
          go_ret2
          exact RV.mk rfl (hE0.trans (hX3.trans hx5))
  · have hk : mayK x s n = validR x := by simp [mayK, h0]
    have hv : mayV x s n = false := by simp [mayV, h0]
    rw [hk, hv]
    have hkk : (validR x != 0) = true := by simp [h0]
    generalize validR x = k at *
    clear h0 hk hv
    go_enter Try.func34, Try.ntmps34
    go_wp2_with fail
    rw [← HW.out]
    refine HV.out.mono ?_; rintro e w1 ⟨rfl, hx1⟩
    go_wp2_with fail
    go_ret2
    exact RV.mk rfl (hE0.trans hx1)
end Go.Proofs.Ytojbamejhlaahaa

