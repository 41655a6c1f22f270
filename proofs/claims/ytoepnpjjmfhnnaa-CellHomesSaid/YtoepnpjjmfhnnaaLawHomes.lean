/- CellHomes: the cells with a form agree with the reference, and each of them has it. No condition. -/
import Derived.Test.YtoepnpjjmfhnnaaHomes
namespace Go.Proofs.Ytoepnpjjmfhnnaa
open Go.RowKit Go.Shelf
set_option linter.unusedVariables false

def homesL (sizes : List Int) (es : List Ent) (n : Int) : List (List Int) := if homesK sizes es n = 0 then (cellsOf sizes).filter (homeB es n) else []
theorem cell_isList {sizes x : List Int} (hok : sizesOk sizes) (h : x ∈ cellsOf sizes) : isListB sizes x 0 = true := by
  obtain ⟨k, hk, rfl⟩ := List.mem_iff_getElem.1 h
  have := cells_ok hok (k := k) hk
  simp only [cellOk, List.getElem?_eq_getElem hk, Option.getD_some, Bool.and_eq_true, beq_iff_eq, List.all_eq_true, List.mem_range, decide_eq_true_eq] at this
  rw [isListB_iff]
  exact ⟨this.1, this.2⟩
theorem homes_mem {sizes : List Int} {es : List Ent} {n : Int} {j : Nat} (h : j < (homesL sizes es n).length) :
    cK sizes es ((homesL sizes es n)[j]?.getD []) = 0 ∧ formI es ((homesL sizes es n)[j]?.getD []) = n ∧ 0 ≤ n := by
  unfold homesL at *
  split at h
  · rename_i h0
    rw [if_pos h0]
    obtain ⟨h1, h2, _⟩ := homesK_zero h0
    have V := validI_zero h1
    have hm := List.getElem_mem h
    rw [List.getElem?_eq_getElem h, Option.getD_some]
    generalize ((cellsOf sizes).filter (homeB es n))[j] = x at *
    rw [List.mem_filter] at hm
    exact ⟨cK_of V (cell_isList V.ok hm.1), by have := hm.2; simpa [homeB] using this, h2⟩
  · simp at h

set_option maxHeartbeats 1000000 in
set_option maxRecDepth 100000 in
theorem cellHomes_c (sv ev : Value) (sizes : List Int) (es : List Ent) (n : Int) (w : World) (hp : Par w sv ev sizes es) (hn : (Lit.int .i64 n).wf = true) :
    Calls Try.prog 10 #[.agg #[sv, ev], .int .i64 n] w (RV (.bool true) w) := by
  have hA := Ext.alloc w (.cells #[sv, ev] 25)
  have hb0 := alloc_cell w #[sv, ev] 25 (i := 0) rfl
  have hb1 := alloc_cell w #[sv, ev] 25 (i := 1) rfl
  have HP := Lib.hid hp
  have HL := Lib.hid (long_c sv ev sizes es _ (hp.ext hA))
  clear hp hn
  cases hl : longB sizes es
  · rw [hl] at HL
    clear hl
    have HH := Lib.hid (fun W (h : Ext w W) => Homes_c sv ev sizes es n W (HP.out.ext h))
    have HRH := Lib.hid (fun W (h : Ext w W) => rHomes_c sv ev sizes es n W (HP.out.ext h))
    have HFM := Lib.hid (fun j (h : j < (homesL sizes es n).length) W u (hx : Ext w W) (hi : Ints W u ((homesL sizes es n)[j]?.getD [])) =>
      show Calls Try.prog 41 #[.agg #[sv, ev], u] W (RV (.tuple #[.int .i64 n, .bool true, .int .i64 0]) W) by
        have := Form_c sv ev u sizes es _ W (HP.out.ext hx) hi
        obtain ⟨h1, h2, h3⟩ := homes_mem h
        rw [h1, h2] at this
        simpa [Int.max_eq_left h3, h3] using this)
    change Hid (∀ W, Ext w W → Calls _ _ _ _ (R2 (isRows (homesL sizes es n)) _ _)) at HH
    change Hid (∀ W, Ext w W → Calls _ _ _ _ (R2 (isRows (homesL sizes es n)) _ _)) at HRH
    generalize homesL sizes es n = A at *
    generalize homesK sizes es n = k at *
    have hkk : (k != k) = false := by simp
    go_enter Try.func10, Try.ntmps10
    go_wp2_with fail
    refine HL.out.mono ?_; rintro e w1 ⟨rfl, hB1⟩
    have hb0 := hB1.keep hb0
    have hb1 := hB1.keep hb1
    have hX1 := hA.trans hB1
    go_wp2_with fail
    refine (HH.out w1 hX1).mono ?_; rintro e w2 ⟨v1, rfl, hv1, hx2⟩
    have hb0 := hx2.keep hb0
    have hb1 := hx2.keep hb1
    have hX2 := hX1.trans hx2
    have HV1 := Lib.hid hv1; clear hv1
    go_wp2_with fail
    refine (HRH.out w2 hX2).mono ?_; rintro e w3 ⟨v2, rfl, hv2, hx3⟩
    have hb0 := hx3.keep hb0
    have hb1 := hx3.keep hb1
    have hX3 := hX2.trans hx3
    have HV2 := Lib.hid hv2; clear hv2
    have HSI := Lib.hid (sameLists_c v1 v2 A A w3 (Rows.ext HV1.out hx3) HV2.out)
    rw [rowsB_iff, beq_self_eq_true] at HSI
    obtain ⟨al, cl, rfl, hll, hml, HR⟩ := Rows.open_ HV1.out
    go_wp2_with fail
    refine HSI.out.mono ?_; rintro e w4 ⟨rfl, n4, hw4⟩
    have hx4 : Ext w3 w4 := by rw [hw4]; exact Ext.drewN _ _
    clear hw4
    have hb0 := hx4.keep hb0
    have hb1 := hx4.keep hb1
    have hX4 := hX3.trans hx4
    have hx24 := hx3.trans hx4
    clear hx2 hx3 hx4 hX1 hX2 hX3 hB1
    go_wp2_with fail
    go_loopg [9] A.length (fun m i wr => ∃ k : Nat, k ≤ A.length ∧ A.length ≤ k + m ∧ i = .int .i64 k ∧ Ext w4 wr)
    case atStart => exact ⟨0, by omega, by omega, rfl, Ext.refl _⟩
    case round =>
      obtain ⟨j, hj, hj2, rfl, hB⟩ := hrel
      by_cases hlt : j < A.length
      · obtain ⟨ba, oa, rfl, u, hc1, hi1⟩ := HR.out j hlt
        have HF := Lib.hid (fun s : Later wr => HFM.out j hlt s.w u (hX4.trans (hB.trans s.ext)) (hi1.ext (hx24.trans (hB.trans s.ext))))
        clear hi1
        have q0 := fun s : Later wr => (hB.trans s.ext).keep hb0
        have q1 := fun s : Later wr => (hB.trans s.ext).keep hb1
        have q2 := fun s : Later wr => (hx24.trans (hB.trans s.ext)).keep hc1
        generalize A[j]?.getD [] = x at *
        go_wp2_with fail
        refine wp_region_later (by kernel_rfl) (by kernel_rfl) ?_
        repeat (go_big_quiet_step ((go_at_call 41; exact Later.call (HF.out _))))
        refine wpQuiet_nil ?_
        intro _ hw'
        obtain ⟨⟨wq, hq⟩, rfl⟩ := hw'
        clear q0 q1 q2
        go_wp2_with fail
        go_roundg (gk-1)
        case measure => omega
        case rel => exact ⟨j+1, by omega, by omega, by go_num, hB.trans hq⟩
      · go_wp2_with fail
        refine (known_c _).mono ?_; rintro e w5 ⟨rfl, hB2⟩
        go_wp2_with fail
        go_ret
        exact RV.bool rfl ((hX4.trans hB).trans hB2)
  · rw [hl] at HL
    clear hl
    go_enter Try.func10, Try.ntmps10
    go_wp2_with fail
    refine HL.out.mono ?_; rintro e w1 ⟨rfl, hB1⟩
    go_wp2_with fail
    refine (known_c _).mono ?_; rintro e w2 ⟨rfl, hB2⟩
    go_wp2_with fail
    go_ret
    exact RV.bool rfl ((hA.trans hB1).trans hB2)
end Go.Proofs.Ytoepnpjjmfhnnaa
