/- MachineRuns: for every input the call returns true. No condition. -/
import Derived.Test.YtodhmkbkcjpnkaaMacS
import Derived.Test.YtodhmkbkcjpnkaaMacY
namespace Go.Proofs.Ytodhmkbkcjpnkaa
open Go.RowKit Go.Shelf
set_option linter.unusedVariables false

theorem sameInts_v (va vb : Value) (a : List Int) (w : World) (ha : Ints w va a) (hb : Ints w vb a) : Calls Try.prog 42 #[va, vb] w (RV (.bool true) w) := by
  have := sameInts_c va vb a a w ha hb
  rw [show sameIntsB a a = true by rw [sameIntsB_iff]; simp] at this
  refine this.mono ?_
  rintro e w' ⟨rfl, n, rfl⟩
  exact ⟨rfl, Ext.drewN _ _⟩

set_option maxHeartbeats 4000000 in
set_option maxRecDepth 100000 in
theorem machineRuns_c (av ev : Value) (m : Mac) (rv : Value) (r : List Int) (w : World) (h : MacR w av ev m) (hr : Ints w rv r) :
    Calls Try.prog 8 #[.agg #[.int .i64 m.s, av, ev], rv] w (RV (.bool true) w) := by
  obtain ⟨wA, hwA⟩ : ∃ wA, wA = w.alloc (.cells #[.int .i64 m.s, av, ev] 25) := ⟨_, rfl⟩
  have hE0 : Ext w wA := by rw [hwA]; exact Ext.alloc _ _
  have k0 : ∀ W, Ext wA W → W.cell? ⟨w.heap.size, 0, none⟩ = some (.int .i64 m.s) := by rw [hwA]; exact kept_alloc w _ _ rfl
  have k1 : ∀ W, Ext wA W → W.cell? ⟨w.heap.size, 1, none⟩ = some av := by rw [hwA]; exact kept_alloc w _ _ rfl
  have k2 : ∀ W, Ext wA W → W.cell? ⟨w.heap.size, 2, none⟩ = some ev := by rw [hwA]; exact kept_alloc w _ _ rfl
  have H0 : Ext wA wA := Ext.refl _
  have HR := Lib.hid (h.ext hE0)
  obtain ⟨aa, ca, rfl, hla, hma, HA⟩ := (h.ext hE0).a.open_
  obtain ⟨ae, ce, rfl, hle, hme, HE⟩ := (h.ext hE0).e.open_
  have HI_r := Lib.hid (hr.ext hE0)
  obtain ⟨a_r, c_r, rfl, _, _, HU_r⟩ := (hr.ext hE0).open_
  have hxL := Ext.alloc wA (.cells #[.slice a_r r.length c_r] 23)
  have HLG := Lib.hid (by have := Long_c _ _ _ m [r] _ (HR.out.ext hxL) (rows_new wA [.slice a_r r.length c_r] [r] (by exact (AllInts.cons HI_r.out (AllInts.nil _))) (by simp)); rw [show wA.heap.size = w.heap.size + 1 by rw [hwA]; simp] at this; exact this)
  have HW := Lib.hid hwA; clear hwA h hr
  have HLB := Lib.hid (longM_bd (m := m) (ls := [r]))
  generalize longM m [r] = b1 at *
  cases b1
  · have HLB2 := HLB.out rfl
    clear HLB
    go_enter Try.func8, Try.ntmps8
    go_wp2_with fail
    rw [← HW.out]
    refine HLG.out.mono ?_; rintro e w2 ⟨rfl, hx2⟩
    replace hx2 := hxL.trans hx2
    clear HLG
    go_wp2_with fail
    refine (CheckRun_c _ _ _ m r w2 (HR.out.ext hx2) (HI_r.out.ext hx2)).mono ?_; rintro e w3 ⟨v1, v2, rfl, hi1, hi2, hx3⟩
    obtain ⟨b1, d1, rfl, _⟩ := hi1.open_
    obtain ⟨b2, d2, rfl, _⟩ := hi2.open_
    have hX3 := hx2.trans hx3
    have HI1 := Lib.hid hi1
    have HI2 := Lib.hid hi2
    clear hi1 hi2
    go_wp2_with fail
    refine (rCheckRun_c _ _ _ m r w3 (HR.out.ext hX3) (HI_r.out.ext hX3)).mono ?_; rintro e w4 ⟨v3, v4, rfl, hi3, hi4, hx4⟩
    obtain ⟨b3, d3, rfl, _⟩ := hi3.open_
    obtain ⟨b4, d4, rfl, _⟩ := hi4.open_
    have hX4 := hX3.trans hx4
    have HS1 := Lib.hid (fun s : Later w4 => sameInts_v _ _ (runI m r) s.w ((HI1.out.ext hx4).ext s.ext) (hi3.ext s.ext))
    have HS2 := Lib.hid (fun s : Later w4 => sameInts_v _ _ (runO m r) s.w ((HI2.out.ext hx4).ext s.ext) (hi4.ext s.ext))
    have HVA := Lib.hid (fun s : Later w4 => Validate_c _ _ m s.w (HR.out.ext (hX4.trans s.ext)))
    have HVB := Lib.hid (fun s : Later w4 => rValidate_c _ _ m s.w (HR.out.ext (hX4.trans s.ext)))
    have HSN := Lib.hid (fun s : Later w4 => sane_c s.w)
    have hs : ∀ s : Later w4, Ext wA s.w := fun s => hX4.trans s.ext
    clear hi3 hi4 HI1 HI2 hx3 hx4
    generalize runI m r = li at *
    generalize runO m r = lo at *
    generalize runK m r = rk at *
    generalize validM m = vk at *
    have h1 : (rk == rk) = true := by simp
    have h2 : (vk == vk) = true := by simp
    go_wp2_with fail
    refine wp_region_later (by kernel_rfl) (by kernel_rfl) ?_
    repeat (go_big_quiet_step ((first | (go_at_call 40; first | with_reducible exact Later.call (HVA.out _)) | (go_at_call 41; first | with_reducible exact Later.call (HVB.out _)) | (go_at_call 42; first | with_reducible exact Later.call (HS1.out _) | with_reducible exact Later.call (HS2.out _)) | (go_at_call 19; first | with_reducible exact Later.call (HSN.out _)))))
    refine wpQuiet_nil ?_
    intro w5 hw'
    obtain ⟨⟨_, hx5⟩, rfl⟩ := hw'
    clear hs
    go_wp2_with fail
    go_ret
    exact RV.bool rfl (hE0.trans (hX4.trans hx5))
  · go_enter Try.func8, Try.ntmps8
    go_wp2_with fail
    rw [← HW.out]
    refine HLG.out.mono ?_; rintro e w2 ⟨rfl, hx2⟩
    replace hx2 := hxL.trans hx2
    go_wp2_with fail
    refine (sane_c _).mono ?_; rintro e wK ⟨rfl, hxK⟩
    go_wp2_with fail
    go_ret
    exact RV.bool rfl (hE0.trans (hx2.trans hxK))
end Go.Proofs.Ytodhmkbkcjpnkaa
