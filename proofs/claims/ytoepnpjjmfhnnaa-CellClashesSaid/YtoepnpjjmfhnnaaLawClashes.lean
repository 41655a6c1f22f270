/- CellClashes: the cells that clash and those that are empty agree with the reference; there are none exactly if all cells have a form. No condition. -/
import Derived.Test.YtoepnpjjmfhnnaaClash
namespace Go.Proofs.Ytoepnpjjmfhnnaa
open Go.RowKit Go.Shelf
set_option linter.unusedVariables false

set_option maxHeartbeats 1000000 in
set_option maxRecDepth 100000 in
theorem cellClashes_c (sv ev : Value) (sizes : List Int) (es : List Ent) (w : World) (hp : Par w sv ev sizes es) :
    Calls Try.prog 11 #[.agg #[sv, ev]] w (RV (.bool true) w) := by
  have hA := Ext.alloc w (.cells #[sv, ev] 25)
  have hb0 := alloc_cell w #[sv, ev] 25 (i := 0) rfl
  have hb1 := alloc_cell w #[sv, ev] 25 (i := 1) rfl
  have HP := Lib.hid hp
  have HL := Lib.hid (long_c sv ev sizes es _ (hp.ext hA))
  clear hp
  cases hl : longB sizes es
  · rw [hl] at HL
    clear hl
    have HC := Lib.hid (fun W (h : Ext w W) => Clashes_c sv ev sizes es W (HP.out.ext h))
    have HRC := Lib.hid (fun W (h : Ext w W) => rClashes_c sv ev sizes es W (HP.out.ext h))
    have HE := Lib.hid (fun W (h : Ext w W) => Empty_c sv ev sizes es W (HP.out.ext h))
    have HRE := Lib.hid (fun W (h : Ext w W) => rEmpty_c sv ev sizes es W (HP.out.ext h))
    have HI := Lib.hid (fun W (h : Ext w W) => IsFull_c sv ev sizes es W (HP.out.ext h))
    by_cases h0 : validI sizes es = 0
    all_goals
      first
        | (have V := validI_zero h0
           rw [h0] at HC HRC HE HRE HI
           rw [if_pos rfl] at HC HRC HE HRE HI
           rw [clash_full V] at HI
           have hcount := (cells_count V.ok).2
           have hA1 : ((cellsOf sizes).filter (clashB es)).length ≤ 27 := Nat.le_trans (List.length_filter_le _ _) hcount
           have hC1 : ((cellsOf sizes).filter (emptyB es)).length ≤ 27 := Nat.le_trans (List.length_filter_le _ _) hcount
           clear V hcount h0
           generalize (cellsOf sizes).filter (clashB es) = A at *
           generalize (cellsOf sizes).filter (emptyB es) = C at *
           generalize hq : (A.length + C.length == 0) = q at *
           have hq2 : ((A.length : Int) + (C.length : Int) == 0) = q := by
             rw [← hq, Bool.eq_iff_iff, beq_iff_eq, beq_iff_eq]; omega
           clear hq
           cases q)
        | (rw [if_neg h0] at HC HRC HE HRE HI
           generalize validI sizes es = k at *
           have hk : (k != 0) = true := by simp [h0]
           have hkk : (k != k) = false := by simp
           have H0 := Lib.hid h0; clear h0)
    all_goals
      go_enter Try.func11, Try.ntmps11
      go_wp2_with fail
      refine HL.out.mono ?_; rintro e w1 ⟨rfl, hB1⟩
      have hb0 := hB1.keep hb0
      have hb1 := hB1.keep hb1
      have hX1 := hA.trans hB1
      go_wp2_with fail
      refine (HC.out w1 hX1).mono ?_; rintro e w2 ⟨v1, rfl, hv1, hx2⟩
      have hb0 := hx2.keep hb0
      have hb1 := hx2.keep hb1
      have hX2 := hX1.trans hx2
      have HV1 := Lib.hid hv1; clear hv1
      go_wp2_with fail
      refine (HRC.out w2 hX2).mono ?_; rintro e w3 ⟨v2, rfl, hv2, hx3⟩
      have hb0 := hx3.keep hb0
      have hb1 := hx3.keep hb1
      have hX3 := hX2.trans hx3
      have HV2 := Lib.hid hv2; clear hv2
      go_wp2_with fail
      refine (HE.out w3 hX3).mono ?_; rintro e w4 ⟨v3, rfl, hv3, hx4⟩
      have hb0 := hx4.keep hb0
      have hb1 := hx4.keep hb1
      have hX4 := hX3.trans hx4
      have HV3 := Lib.hid hv3; clear hv3
      go_wp2_with fail
      refine (HRE.out w4 hX4).mono ?_; rintro e w5 ⟨v4, rfl, hv4, hx5⟩
      have hb0 := hx5.keep hb0
      have hb1 := hx5.keep hb1
      have hX5 := hX4.trans hx5
      have HV4 := Lib.hid hv4; clear hv4
      have HS1 := Lib.hid (fun W (h : Ext w5 W) => sameLists_c v1 v2 _ _ W (Rows.ext HV1.out (((hx3.trans hx4).trans hx5).trans h)) (Rows.ext HV2.out ((hx4.trans hx5).trans h)))
      have HS2 := Lib.hid (fun W (h : Ext w5 W) => sameLists_c v3 v4 _ _ W (Rows.ext HV3.out (hx5.trans h)) (Rows.ext HV4.out h))
      simp only [rowsB_iff, beq_self_eq_true] at HS1 HS2
      obtain ⟨a1, c1, rfl, _⟩ := Rows.open_ HV1.out
      obtain ⟨a3, c3, rfl, _⟩ := Rows.open_ HV3.out
      go_wp2_with fail
      refine (HS1.out _ (Ext.refl _)).mono ?_; rintro e w6 ⟨rfl, n6, hw6⟩
      have hx6 : Ext w5 w6 := by rw [hw6]; exact Ext.drewN _ _
      clear hw6
      go_wp2_with fail
      refine (HS2.out _ hx6).mono ?_; rintro e w7 ⟨rfl, n7, hw7⟩
      have hx7 : Ext w6 w7 := by rw [hw7]; exact Ext.drewN _ _
      clear hw7
      have hx57 := hx6.trans hx7
      have hb0 := hx57.keep hb0
      have hb1 := hx57.keep hb1
      have hX7 := hX5.trans hx57
      clear hx2 hx3 hx4 hx5 hx6 hx7 hx57 hX1 hX2 hX3 hX4 hX5 hB1
      go_wp2_with fail
      refine (HI.out w7 hX7).mono ?_; rintro e w8 ⟨v5, rfl, hv5, hx8⟩
      simp only [isBool] at hv5
      subst hv5
      have hX8 := hX7.trans hx8
      go_wp2_with fail
      refine (known_c _).mono ?_; rintro e w9 ⟨rfl, hx9⟩
      go_wp2_with fail
      go_ret
      exact RV.bool rfl (hX8.trans hx9)
  · rw [hl] at HL
    clear hl
    go_enter Try.func11, Try.ntmps11
    go_wp2_with fail
    refine HL.out.mono ?_; rintro e w1 ⟨rfl, hB1⟩
    go_wp2_with fail
    refine (known_c _).mono ?_; rintro e w2 ⟨rfl, hB2⟩
    go_wp2_with fail
    go_ret
    exact RV.bool rfl ((hA.trans hB1).trans hB2)
end Go.Proofs.Ytoepnpjjmfhnnaa
