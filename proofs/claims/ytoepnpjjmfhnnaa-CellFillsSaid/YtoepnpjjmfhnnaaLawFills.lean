/- CellFills: the forms of all cells, and whether none is without one, agree with the reference. No condition. -/
import Derived.Test.YtoepnpjjmfhnnaaRefE
namespace Go.Proofs.Ytoepnpjjmfhnnaa
open Go.RowKit Go.Shelf
set_option linter.unusedVariables false

set_option maxHeartbeats 1000000 in
set_option maxRecDepth 100000 in
theorem cellFills_c (sv ev : Value) (sizes : List Int) (es : List Ent) (w : World) (hp : Par w sv ev sizes es) :
    Calls Try.prog 4 #[.agg #[sv, ev]] w (RV (.bool true) w) := by
  have hA := Ext.alloc w (.cells #[sv, ev] 25)
  have hb0 := alloc_cell w #[sv, ev] 25 (i := 0) rfl
  have hb1 := alloc_cell w #[sv, ev] 25 (i := 1) rfl
  have HP := Lib.hid hp
  have HL := Lib.hid (long_c sv ev sizes es _ (hp.ext hA))
  clear hp
  have HF := Lib.hid (fun W (h : Par W sv ev sizes es) => Fill_c sv ev sizes es W h)
  have HRF := Lib.hid (fun W (h : Par W sv ev sizes es) => rFill_c sv ev sizes es W h)
  have HI := Lib.hid (fun W (h : Par W sv ev sizes es) => IsFull_c sv ev sizes es W h)
  have HRI := Lib.hid (fun W (h : Par W sv ev sizes es) => rIsFull_c sv ev sizes es W h)
  cases hl : longB sizes es
  · rw [hl] at HL
    clear hl
    by_cases h0 : validI sizes es = 0
    all_goals
      first
        | (rw [h0, if_pos rfl] at HF HRF HI HRI; have hk : ((0 : Int) != 0) = false := by simp)
        | (rw [if_neg h0] at HF HRF HI HRI; have hk : (validI sizes es != 0) = true := by simp [h0])
      first
        | (generalize validI sizes es = k at *; have hkk : (k == k) = true := by simp)
        | skip
      have H0 := Lib.hid h0; clear h0
      first
        | (generalize hLL : fillL sizes es = L at *
           generalize hbb : hasB L (-1) = hb at *
           have HBB := Lib.hid hbb; clear hbb
           have HLL := Lib.hid hLL; clear hLL
           cases hb)
        | skip
      all_goals
        go_enter Try.func4, Try.ntmps4
        go_wp2_with fail
        refine HL.out.mono ?_; rintro e w1 ⟨rfl, hB1⟩
        have hb0 := hB1.keep hb0
        have hb1 := hB1.keep hb1
        replace hB1 := hA.trans hB1
        go_wp2_with fail
        refine (HF.out w1 (HP.out.ext hB1)).mono ?_; rintro e w2 ⟨v1, rfl, hv1, hx2⟩
        have hb0 := hx2.keep hb0
        have hb1 := hx2.keep hb1
        replace hB2 := hB1.trans hx2
        have HV1 := Lib.hid hv1; clear hv1
        go_wp2_with fail
        refine (HRF.out w2 (HP.out.ext hB2)).mono ?_; rintro e w3 ⟨v2, rfl, hv2, hx3⟩
        have hb0 := hx3.keep hb0
        have hb1 := hx3.keep hb1
        have hB3 := hB2.trans hx3
        have HV2 := Lib.hid hv2; clear hv2
        go_wp2_with fail
        refine (HI.out w3 (HP.out.ext hB3)).mono ?_; rintro e w4 ⟨v3, rfl, hv3, hx4⟩
        have hb0 := hx4.keep hb0
        have hb1 := hx4.keep hb1
        have hB4 := hB3.trans hx4
        simp only [isBool] at hv3
        subst hv3
        go_wp2_with fail
        refine (HRI.out w4 (HP.out.ext hB4)).mono ?_; rintro e w5 ⟨v4, rfl, hv4, hx5⟩
        have hB5 := hB4.trans hx5
        simp only [isBool] at hv4
        subst hv4
        have HSI := Lib.hid (sameInts_c _ _ _ _ w5 (Ints.ext HV1.out (((hx3.trans hx4).trans hx5))) (Ints.ext HV2.out (hx4.trans hx5)))
        rw [sameIntsB_iff, beq_self_eq_true] at HSI
        go_wp2_with fail
        refine HSI.out.mono ?_; rintro e w6 ⟨rfl, n6, hw6⟩
        have hx6 : Ext w5 w6 := by rw [hw6]; exact Ext.drewN _ _
        clear hw6
        first
          | (have HHS := Lib.hid (has_c _ _ (-1) w6 (Ints.ext HV1.out ((((hx3.trans hx4).trans hx5).trans hx6))))
             rw [HBB.out] at HHS
             go_wp2_with fail
             refine HHS.out.mono ?_; rintro e w7 ⟨rfl, rfl⟩
             go_wp2_with fail
             refine (known_c _).mono ?_; rintro e w8 ⟨rfl, hx8⟩
             go_wp2_with fail
             go_ret
             exact RV.bool rfl ((hB5.trans hx6).trans hx8))
          | (go_wp2_with fail
             refine (known_c _).mono ?_; rintro e w8 ⟨rfl, hx8⟩
             go_wp2_with fail
             go_ret
             exact RV.bool rfl ((hB5.trans hx6).trans hx8))
  · rw [hl] at HL
    clear hl
    go_enter Try.func4, Try.ntmps4
    go_wp2_with fail
    refine HL.out.mono ?_; rintro e w1 ⟨rfl, hB1⟩
    go_wp2_with fail
    refine (known_c _).mono ?_; rintro e w2 ⟨rfl, hB2⟩
    go_wp2_with fail
    go_ret
    exact RV.bool rfl ((hA.trans hB1).trans hB2)
end Go.Proofs.Ytoepnpjjmfhnnaa
