/- MachineShortest: for every input the call returns true. No condition. -/
import Derived.Test.YtodhmkbkcjpnkaaMacS
import Derived.Test.YtodhmkbkcjpnkaaMacB
import Derived.Test.YtodhmkbkcjpnkaaShoT
namespace Go.Proofs.Ytodhmkbkcjpnkaa
open Go.RowKit Go.Shelf
set_option linter.unusedVariables false

theorem wf_mk5 {i : Int} (h : -9223372036854775808 ≤ i ∧ i ≤ 9223372036854775807) : (Lit.int .i64 i).wf = true := by
  simp [Lit.wf]; exact h
theorem sameInts_w (va vb : Value) (a : List Int) (w : World) (ha : Ints w va a) (hb : Ints w vb a) : Calls Try.prog 42 #[va, vb] w (RV (.bool true) w) := by
  have := sameInts_c va vb a a w ha hb
  rw [show sameIntsB a a = true by rw [sameIntsB_iff]; simp] at this
  refine this.mono ?_
  rintro e w' ⟨rfl, n, rfl⟩
  exact ⟨rfl, Ext.drewN _ _⟩
theorem sho_count {m : Mac} {k : Nat} (h : k < (shoI m).length) : countV m k = 0 ∧ countK m k = 0 := by
  unfold shoI at h
  split at h
  · rename_i hb
    unfold shoB at hb
    simp only [Bool.and_eq_true, decide_eq_true_eq] at hb
    obtain ⟨hv, h0⟩ := hb
    have hM := validM_mac hv
    have hd := shoD_bd hM
    rw [shoIn_len] at h
    have hin : inB (k : Int) 0 10 = true := by unfold inB; simp; omega
    refine ⟨?_, ?_⟩
    · rw [countV, if_pos hv, hin, if_pos rfl, Int.toNat_natCast]
      refine count_short hM ?_
      show (k : Int) < shoD m
      omega
    · rw [countK, if_pos hv, hin, if_pos rfl]
  · simp at h
theorem sho_len (m : Mac) : (shoI m).length ≤ 9 := by
  unfold shoI
  split
  · rename_i hb
    unfold shoB at hb
    simp only [Bool.and_eq_true, decide_eq_true_eq] at hb
    have hd := shoD_bd (validM_mac hb.1)
    rw [shoIn_len]; omega
  · simp

set_option maxHeartbeats 4000000 in
set_option maxRecDepth 100000 in
theorem machineShortest_c (av ev : Value) (m : Mac) (w : World) (h : MacR w av ev m) :
    Calls Try.prog 12 #[.agg #[.int .i64 m.s, av, ev]] w (RV (.bool true) w) := by
  obtain ⟨wA, hwA⟩ : ∃ wA, wA = w.alloc (.cells #[.int .i64 m.s, av, ev] 25) := ⟨_, rfl⟩
  have hE0 : Ext w wA := by rw [hwA]; exact Ext.alloc _ _
  have k0 : ∀ W, Ext wA W → W.cell? ⟨w.heap.size, 0, none⟩ = some (.int .i64 m.s) := by rw [hwA]; exact kept_alloc w _ _ rfl
  have k1 : ∀ W, Ext wA W → W.cell? ⟨w.heap.size, 1, none⟩ = some av := by rw [hwA]; exact kept_alloc w _ _ rfl
  have k2 : ∀ W, Ext wA W → W.cell? ⟨w.heap.size, 2, none⟩ = some ev := by rw [hwA]; exact kept_alloc w _ _ rfl
  have H0 : Ext wA wA := Ext.refl _
  have HR := Lib.hid (h.ext hE0)
  obtain ⟨aa, ca, rfl, hla, hma, HA⟩ := (h.ext hE0).a.open_
  obtain ⟨ae, ce, rfl, hle, hme, HE⟩ := (h.ext hE0).e.open_
  have HLG := Lib.hid (Long_c _ _ _ m [] wA HR.out (Rows.nil wA))
  have hxL := Ext.refl wA
  have HW := Lib.hid hwA; clear hwA h
  have HLB := Lib.hid (longM_bd (m := m) (ls := []))
  generalize longM m [] = b1 at *
  cases b1
  · have HLB2 := HLB.out rfl
    clear HLB
    go_enter Try.func12, Try.ntmps12
    go_wp2_with fail
    rw [← HW.out]
    refine HLG.out.mono ?_; rintro e w2 ⟨rfl, hx2⟩
    replace hx2 := hxL.trans hx2
    clear HLG
    go_wp2_with fail
    refine (Shortest_c _ _ m w2 (HR.out.ext hx2)).mono ?_; rintro e w3 ⟨v1, v2, rfl, hi1, hi2, hx3⟩
    obtain ⟨a1, c1, rfl, _⟩ := hi1.open_
    obtain ⟨a2, c2, rfl, _⟩ := hi2.open_
    replace hx3 := hx2.trans hx3
    go_wp2_with fail
    refine (rShortest_c _ _ m w3 (HR.out.ext hx3)).mono ?_; rintro e w4 ⟨v3, v4, rfl, hi3, hi4, hx4⟩
    obtain ⟨a3, c3, rfl, _⟩ := hi3.open_
    obtain ⟨a4, c4, rfl, _⟩ := hi4.open_
    have HS1 := Lib.hid (sameInts_w _ _ _ w4 (hi1.ext hx4) hi3)
    have HS2 := Lib.hid (fun W (hW : Ext w4 W) => sameInts_w _ _ _ W (hi2.ext (hx4.trans hW)) (hi4.ext hW))
    clear hi1 hi2 hi3 hi4
    replace hx4 := hx3.trans hx4
    have HCT := Lib.hid (fun k h => sho_count (m := m) (k := k) h)
    have hl9 := sho_len m
    generalize shoI m = L1 at *
    generalize shoO m = L2 at *
    generalize shoB m = b at *
    generalize validM m = kk at *
    have h1 : (b != b) = false := by simp
    have h2 : (kk != kk) = false := by simp
    go_wp2_with fail
    refine HS1.out.mono ?_; rintro e w5 ⟨rfl, hx5⟩
    go_wp2_with fail
    refine (HS2.out w5 hx5).mono ?_; rintro e w6 ⟨rfl, hx6⟩
    have hX6 := hx4.trans (hx5.trans hx6)
    clear hx5 hx6 hx4 hx3 HS1 HS2
    go_wp2_with fail
    go_loopg [11] L1.length (fun z i wr => ∃ k : Nat, k ≤ L1.length ∧ L1.length ≤ k + z ∧ i = .int .i64 k ∧ Ext wA wr)
    case atStart => exact ⟨0, by omega, by omega, rfl, hX6⟩
    case round =>
      clear hX6
      obtain ⟨k, hk, hkz, rfl, hEr⟩ := hrel
      cases b
      · go_wp2_with fail
        refine (sane_c _).mono ?_; rintro e wK ⟨rfl, hxK⟩
        go_wp2_with fail
        go_ret
        exact RV.bool rfl (hE0.trans (hEr.trans hxK))
      · by_cases hlt : k < L1.length
        · have hkI : (k : Int) < (L1.length : Int) := by omega
          have hk10 : decide ((k : Int) ≤ 10) = true := by simp; omega
          have HC := Lib.hid (Count_c _ _ m k wr (HR.out.ext hEr) (wf_mk5 (by omega)))
          obtain ⟨e1, e2⟩ := HCT.out k hlt
          rw [e1, e2] at HC
          clear e1 e2
          go_wp2_with fail
          refine HC.out.mono ?_; rintro e w7 ⟨rfl, hx7⟩
          go_wp2_with fail
          go_roundg (gk-1)
          case measure => omega
          case rel => exact ⟨k+1, by omega, by omega, by go_num, hEr.trans hx7⟩
        · have hkI : ¬ (k : Int) < (L1.length : Int) := by omega
          go_wp2_with fail
          refine (sane_c _).mono ?_; rintro e wK ⟨rfl, hxK⟩
          go_wp2_with fail
          go_ret
          exact RV.bool rfl (hE0.trans (hEr.trans hxK))
  · go_enter Try.func12, Try.ntmps12
    go_wp2_with fail
    rw [← HW.out]
    refine HLG.out.mono ?_; rintro e w2 ⟨rfl, hx2⟩
    replace hx2 := hxL.trans hx2
    go_wp2_with fail
    refine (sane_c _).mono ?_; rintro e wK ⟨rfl, hxK⟩
    go_wp2_with fail
    go_ret
    exact RV.bool rfl (hE0.trans (hx2.trans hxK))
end Go.Proofs.Ytodhmkbkcjpnkaa
