/- CellLists returns true for all paradigms: cell.Cells and cell.Validate agree with the reference. No condition. -/
import Derived.Test.YtoepnpjjmfhnnaaRows
import Derived.Test.YtoepnpjjmfhnnaaLawA
import Derived.Test.YtoepnpjjmfhnnaaOpen
namespace Go.Proofs.Ytoepnpjjmfhnnaa
open Go.RowKit Go.Shelf

set_option maxHeartbeats 1000000 in
set_option maxRecDepth 100000 in
theorem cellLists_c (sv ev : Value) (sizes : List Int) (es : List Ent) (w : World) (hp : Par w sv ev sizes es) :
    Calls Try.prog 3 #[.agg #[sv, ev]] w (RV (.bool true) w) := by
  have hA := Ext.alloc w (.cells #[sv, ev] 25)
  have hb0 := alloc_cell w #[sv, ev] 25 (i := 0) rfl
  have hb1 := alloc_cell w #[sv, ev] 25 (i := 1) rfl
  have HP := Lib.hid hp
  have HL := Lib.hid (long_c sv ev sizes es _ (hp.ext hA))
  clear hp
  have HC := Lib.hid (fun W (h : Par W sv ev sizes es) => Cells_c sv ev sizes es W h)
  have HRC := Lib.hid (fun W (h : Par W sv ev sizes es) => rCells_c sv ev sizes es W h)
  have HVA := Lib.hid (fun W (h : Par W sv ev sizes es) => validate_c sv ev sizes es W h.s h.e)
  have HRVA := Lib.hid (fun W (h : Par W sv ev sizes es) => rValidate_c sv ev sizes es W h.s h.e)
  generalize (if validI sizes es = 0 then cellsOf sizes else []) = L at *
  generalize validI sizes es = k at *
  cases hl : longB sizes es
  · rw [hl] at HL
    clear hl
    go_enter Try.func3, Try.ntmps3
    go_wp2_with fail
    refine HL.out.mono ?_; rintro e w1 ⟨rfl, hB1⟩
    have hb0 := hB1.keep hb0
    have hb1 := hB1.keep hb1
    replace hB1 := hA.trans hB1
    go_wp2_with fail
    refine (HC.out w1 (HP.out.ext hB1)).mono ?_; rintro e w2 ⟨v, rfl, hv, hB2⟩
    have hb0 := hB2.keep hb0
    have hb1 := hB2.keep hb1
    replace hB2 := hB1.trans hB2
    have hv' := hv
    obtain ⟨a1, c1, rfl, _⟩ := Rows.open_ hv
    have HV1 := Lib.hid hv'; clear hv hv'
    go_wp2_with fail
    refine (HRC.out w2 (HP.out.ext hB2)).mono ?_; rintro e w3 ⟨u, rfl, hu, hB3⟩
    have hu' := hu
    obtain ⟨a2, c2, rfl, _⟩ := Rows.open_ hu
    have HV2 := Lib.hid hu'; clear hu hu'
    have q0 := fun s : Later w3 => (hB3.trans s.ext).keep hb0
    have q1 := fun s : Later w3 => (hB3.trans s.ext).keep hb1
    have HX := Lib.hid (hB2.trans hB3)
    have HVal := Lib.hid (fun s : Later w3 => HVA.out s.w (HP.out.ext (HX.out.trans s.ext)))
    have HRVal := Lib.hid (fun s : Later w3 => HRVA.out s.w (HP.out.ext (HX.out.trans s.ext)))
    have HSL := Lib.hid (fun s : Later w3 => sameLists_c _ _ _ _ s.w (Rows.ext HV1.out (hB3.trans s.ext)) (Rows.ext HV2.out s.ext))
    rw [rowsB_iff] at HSL
    rw [beq_self_eq_true] at HSL
    have hk : (k == k) = true := by simp
    clear hb0 hb1
    go_wp2_with fail
    refine wp_region_later (by kernel_rfl) (by kernel_rfl) ?_
    repeat (go_big_quiet_step ((first
      | (go_at_call 18; exact Later.call (HVal.out _))
      | (go_at_call 19; exact Later.call (HRVal.out _))
      | (go_at_call 20; exact Later.callQ (HSL.out _))
      | (go_at_call 15; exact Later.call (known_c _)))))
    refine wpQuiet_nil ?_
    intro _ hw'
    obtain ⟨⟨wq, hq⟩, rfl⟩ := hw'
    clear q0 q1
    go_wp2_with fail
    go_ret
    exact RV.bool rfl (HX.out.trans hq)
  · rw [hl] at HL
    clear hl
    go_enter Try.func3, Try.ntmps3
    go_wp2_with fail
    refine HL.out.mono ?_; rintro e w1 ⟨rfl, hB1⟩
    go_wp2_with fail
    refine (known_c _).mono ?_; rintro e w2 ⟨rfl, hB2⟩
    go_wp2_with fail
    go_ret
    exact RV.bool rfl ((hA.trans hB1).trans hB2)
end Go.Proofs.Ytoepnpjjmfhnnaa
