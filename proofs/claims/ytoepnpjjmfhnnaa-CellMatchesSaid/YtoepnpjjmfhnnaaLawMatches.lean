/- CellMatches: the entries that match a cell, the one that decides it, its form agree with the reference. No condition. -/
import Derived.Test.YtoepnpjjmfhnnaaMatch
namespace Go.Proofs.Ytoepnpjjmfhnnaa
open Go.RowKit Go.Shelf
set_option linter.unusedVariables false

theorem findI_mem {l : List Int} {p : Int → Bool} (h : findI l p ≠ -1) : findI l p ∈ l := by
  rcases findI_cases l p with ⟨j, hj, _, he⟩ | ⟨_, he⟩
  · rw [he]
    simp [hj]
  · exact absurd he h
theorem formI_ge {sizes : List Int} {es : List Ent} {c : List Int} (V : ValidP sizes es) : decide (0 ≤ formI es c) = decide (0 ≤ decidesI es c) := by
  unfold formI
  rcases decidesI_cases es c with ⟨k, hk, hd⟩ | hd
  · rw [hd, if_pos (by omega)]
    have := V.ent k hk
    simp only [entB, Bool.and_eq_true, decide_eq_true_eq] at this
    simp [this.2.1]
  · rw [hd, if_neg (by omega)]
theorem has_decides {es : List Ent} {c : List Int} (h : decide (0 ≤ decidesI es c) = true) : hasB (sel es.length (matchB es c)) (max (decidesI es c) 0) = true := by
  have h := of_decide_eq_true h
  rw [Int.max_eq_left h, hasB_eq]
  simp only [List.contains_iff_mem]
  exact findI_mem (fun e => by have h := h; rw [show decidesI es c = -1 from e] at h; omega)

set_option maxHeartbeats 1000000 in
set_option maxRecDepth 100000 in
theorem cellMatches_c (sv ev : Value) (sizes : List Int) (es : List Ent) (vc : Value) (c : List Int) (w : World) (hp : Par w sv ev sizes es) (hc : Ints w vc c) :
    Calls Try.prog 8 #[.agg #[sv, ev], vc] w (RV (.bool true) w) := by
  have hA := Ext.alloc w (.cells #[sv, ev] 25)
  have hb0 := alloc_cell w #[sv, ev] 25 (i := 0) rfl
  have hb1 := alloc_cell w #[sv, ev] 25 (i := 1) rfl
  have HP := Lib.hid hp; have HC := Lib.hid hc
  have HL := Lib.hid (long_c sv ev sizes es _ (hp.ext hA))
  clear hp hc
  cases hl : longB sizes es
  · rw [hl] at HL
    clear hl
    have HLA := Lib.hid (fun W (h : Ext w W) => large_c vc c W (HC.out.ext h))
    cases hla : decide (100 < c.length)
    · rw [hla] at HLA
      clear hla
      have HM := Lib.hid (fun W (h : Ext w W) => Matches_c sv ev vc sizes es c W (HP.out.ext h) (HC.out.ext h))
      have HRM := Lib.hid (fun W (h : Ext w W) => rMatchesE_c sv ev vc sizes es c W (HP.out.ext h) (HC.out.ext h))
      have HD := Lib.hid (fun W (h : Ext w W) => Decides_c sv ev vc sizes es c W (HP.out.ext h) (HC.out.ext h))
      have HRD := Lib.hid (fun W (h : Ext w W) => rDecidesE_c sv ev vc sizes es c W (HP.out.ext h) (HC.out.ext h))
      have HF := Lib.hid (fun W (h : Ext w W) => Form_c sv ev vc sizes es c W (HP.out.ext h) (HC.out.ext h))
      have HRF := Lib.hid (fun W (h : Ext w W) => rFormE_c sv ev vc sizes es c W (HP.out.ext h) (HC.out.ext h))
      by_cases h0 : cK sizes es c = 0
      all_goals
        first
          | (rw [h0, if_pos rfl] at HM HRM HD HRD HF HRF
             simp only [eq_self, decide_true, Bool.true_and] at HD HRD HF HRF
             rw [formI_ge (cK_zero h0).1] at HF HRF
             have HH := Lib.hid (has_decides (es := es) (c := c))
             generalize sel es.length (matchB es c) = L at *
             generalize max (decidesI es c) 0 = d at *
             generalize max (formI es c) 0 = f at *
             clear h0
             cases hbb : decide (0 ≤ decidesI es c)
             all_goals
               rw [hbb] at HD HRD HF HRF
               first
                 | have HHH := Lib.hid (HH.out hbb)
                 | skip
               clear hbb HH)
          | (rw [if_neg h0] at HM HRM HD HRD HF HRF
             rw [decide_eq_false h0, Bool.false_and] at HD HRD HF HRF
             generalize cK sizes es c = k at *
             have hk : (k != 0) = true := by simp [h0]
             have H0 := Lib.hid h0; clear h0)
      all_goals
        go_enter Try.func8, Try.ntmps8
        go_wp2_with fail
        refine HL.out.mono ?_; rintro e w1 ⟨rfl, hB1⟩
        have hb0 := hB1.keep hb0
        have hb1 := hB1.keep hb1
        have hX1 := hA.trans hB1
        go_wp2_with fail
        refine (HLA.out w1 hX1).mono ?_; rintro e w1' ⟨rfl, rfl⟩
        go_wp2_with fail
        refine (HM.out w1 hX1).mono ?_; rintro e w2 ⟨v1, rfl, hv1, hx2⟩
        have hb0 := hx2.keep hb0
        have hb1 := hx2.keep hb1
        have hX2 := hX1.trans hx2
        have HV1 := Lib.hid hv1; clear hv1
        go_wp2_with fail
        refine (HRM.out w2 hX2).mono ?_; rintro e w3 ⟨v2, rfl, hv2, hx3⟩
        have hb0 := hx3.keep hb0
        have hb1 := hx3.keep hb1
        have hX3 := hX2.trans hx3
        have HV2 := Lib.hid hv2; clear hv2
        go_wp2_with fail
        refine (HD.out w3 hX3).mono ?_; rintro e w4 ⟨rfl, hx4⟩
        have hb0 := hx4.keep hb0
        have hb1 := hx4.keep hb1
        have hX4 := hX3.trans hx4
        go_wp2_with fail
        refine (HRD.out w4 hX4).mono ?_; rintro e w5 ⟨rfl, hx5⟩
        have hb0 := hx5.keep hb0
        have hb1 := hx5.keep hb1
        have hX5 := hX4.trans hx5
        go_wp2_with fail
        refine (HF.out w5 hX5).mono ?_; rintro e w6 ⟨rfl, hx6⟩
        have hb0 := hx6.keep hb0
        have hb1 := hx6.keep hb1
        have hX6 := hX5.trans hx6
        go_wp2_with fail
        refine (HRF.out w6 hX6).mono ?_; rintro e w7 ⟨rfl, hx7⟩
        have hX7 := hX6.trans hx7
        have HI1 := Lib.hid (Ints.ext HV1.out ((((hx3.trans hx4).trans hx5).trans hx6).trans hx7))
        have HI2 := Lib.hid (Ints.ext HV2.out (((hx4.trans hx5).trans hx6).trans hx7))
        have HSI := Lib.hid (sameInts_c _ _ _ _ w7 HI1.out HI2.out)
        rw [sameIntsB_iff, beq_self_eq_true] at HSI
        clear hb0 hb1 hx2 hx3 hx4 hx5 hx6 hx7 hB1 hX1 hX2 hX3 hX4 hX5 hX6
        go_wp2_with fail
        refine HSI.out.mono ?_; rintro e w8 ⟨rfl, n8, hw8⟩
        have hx8 : Ext w7 w8 := by rw [hw8]; exact Ext.drewN _ _
        clear hw8
        first
          | (have HHS := Lib.hid (has_c _ _ d w8 (HI1.out.ext hx8))
             rw [HHH.out] at HHS
             go_wp2_with fail
             refine HHS.out.mono ?_; rintro e w9 ⟨rfl, rfl⟩
             go_wp2_with fail
             refine (known_c _).mono ?_; rintro e w8 ⟨rfl, hx9⟩
             go_wp2_with fail
             go_ret
             exact RV.bool rfl ((hX7.trans hx8).trans hx9))
          | (go_wp2_with fail
             refine (known_c _).mono ?_; rintro e w9 ⟨rfl, hx9⟩
             go_wp2_with fail
             go_ret
             exact RV.bool rfl ((hX7.trans hx8).trans hx9))
    · rw [hla] at HLA
      clear hla
      go_enter Try.func8, Try.ntmps8
      go_wp2_with fail
      refine HL.out.mono ?_; rintro e w1 ⟨rfl, hB1⟩
      have hX1 := hA.trans hB1
      go_wp2_with fail
      refine (HLA.out w1 hX1).mono ?_; rintro e w1' ⟨rfl, rfl⟩
      go_wp2_with fail
      refine (known_c _).mono ?_; rintro e w2 ⟨rfl, hB2⟩
      go_wp2_with fail
      go_ret
      exact RV.bool rfl (hX1.trans hB2)
  · rw [hl] at HL
    clear hl
    go_enter Try.func8, Try.ntmps8
    go_wp2_with fail
    refine HL.out.mono ?_; rintro e w1 ⟨rfl, hB1⟩
    go_wp2_with fail
    refine (known_c _).mono ?_; rintro e w2 ⟨rfl, hB2⟩
    go_wp2_with fail
    go_ret
    exact RV.bool rfl ((hA.trans hB1).trans hB2)
end Go.Proofs.Ytoepnpjjmfhnnaa
