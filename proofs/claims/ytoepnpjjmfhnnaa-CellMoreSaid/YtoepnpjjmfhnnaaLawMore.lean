/- CellMore: which entries are more special than others, and the spec of both, agree with the reference. No condition. -/
import Derived.Test.YtoepnpjjmfhnnaaMore
namespace Go.Proofs.Ytoepnpjjmfhnnaa
open Go.RowKit Go.Shelf
set_option linter.unusedVariables false

theorem isMoreB_asym (a b : List Int) (h : isMoreB a b = true) : isMoreB b a = false := by
  simp only [isMoreB, Bool.and_eq_true, Bool.not_eq_true'] at h
  simp [isMoreB, h.2]
theorem isMoreB_meet {a b : List Int} (hl : a.length = b.length) (h : isMoreB a b = true) : meetB a b = true := by
  simp only [isMoreB, Bool.and_eq_true] at h
  have h1 := h.1
  simp only [holdsB, agreesB, allB, List.all_eq_true, List.mem_range] at h1
  rw [meetB, agreesB, allB_true]
  intro t ht
  rw [h1 t (by omega), Bool.or_true]

set_option maxHeartbeats 1000000 in
set_option maxRecDepth 100000 in
theorem cellMore_c (sv ev : Value) (sizes : List Int) (es : List Ent) (i j : Int) (w : World) (hp : Par w sv ev sizes es) (hi : (Lit.int .i64 i).wf = true) (hj : (Lit.int .i64 j).wf = true) :
    Calls Try.prog 7 #[.agg #[sv, ev], .int .i64 i, .int .i64 j] w (RV (.bool true) w) := by
  have hA := Ext.alloc w (.cells #[sv, ev] 25)
  have hb0 := alloc_cell w #[sv, ev] 25 (i := 0) rfl
  have hb1 := alloc_cell w #[sv, ev] 25 (i := 1) rfl
  have HP := Lib.hid hp
  have HL := Lib.hid (long_c sv ev sizes es _ (hp.ext hA))
  clear hp hi hj
  cases hl : longB sizes es
  · rw [hl] at HL
    clear hl
    have HM := Lib.hid (fun W (h : Ext w W) => IsMore_c sv ev sizes es i j W (HP.out.ext h))
    have HRM := Lib.hid (fun W (h : Ext w W) => rIsMoreE_c sv ev sizes es i j W (HP.out.ext h))
    have HT := Lib.hid (fun W (h : Ext w W) => Meet_c sv ev sizes es i j W (HP.out.ext h))
    have HRT := Lib.hid (fun W (h : Ext w W) => rMeetE_c sv ev sizes es i j W (HP.out.ext h))
    have HBK := Lib.hid (fun W (h : Ext w W) => IsMore_c sv ev sizes es j i W (HP.out.ext h))
    rw [nK_swap sizes es j i] at HBK
    have hfact : nK sizes es i j = 0 → moreB sizes es i j = true → moreB sizes es j i = false ∧ meetsB sizes es i j = true := by
      intro h0 hm
      obtain ⟨V, a, b, rfl, rfl, ha, hb⟩ := nK_zero h0
      have hm' : isMoreB (ent es a).1 (ent es b).1 = true := by simpa [moreB, h0] using hm
      exact ⟨by simp [moreB, isMoreB_asym _ _ hm'], by simp [meetsB, h0, isMoreB_meet ((V.len a ha).trans (V.len b hb).symm) hm']⟩
    generalize moreB sizes es i j = M at *
    generalize moreB sizes es j i = B at *
    generalize meetsB sizes es i j = MB at *
    generalize meetsL sizes es i j = ML at *
    generalize nK sizes es i j = k at *
    have hkk : (k != k) = false := by simp
    have hmm : (MB != MB) = false := by simp
    by_cases h0 : k = 0
    all_goals
      first
        | (subst h0
           cases M
           all_goals
             first
               | (obtain ⟨rfl, rfl⟩ := hfact rfl rfl)
               | skip)
        | (have hk : (k != 0) = true := by simp [h0]
           have H0 := Lib.hid h0; clear h0
           have hMM : (M != M) = false := by simp)
    all_goals
      clear hfact
      go_enter Try.func7, Try.ntmps7
      go_wp2_with fail
      refine HL.out.mono ?_; rintro e w1 ⟨rfl, hB1⟩
      have hb0 := hB1.keep hb0
      have hb1 := hB1.keep hb1
      have hX1 := hA.trans hB1
      go_wp2_with fail
      refine (HM.out w1 hX1).mono ?_; rintro e w2 ⟨rfl, hx2⟩
      have hb0 := hx2.keep hb0
      have hb1 := hx2.keep hb1
      have hX2 := hX1.trans hx2
      go_wp2_with fail
      refine (HRM.out w2 hX2).mono ?_; rintro e w3 ⟨rfl, hx3⟩
      have hb0 := hx3.keep hb0
      have hb1 := hx3.keep hb1
      have hX3 := hX2.trans hx3
      go_wp2_with fail
      refine (HT.out w3 hX3).mono ?_; rintro e w4 ⟨v1, rfl, hv1, hx4⟩
      have hb0 := hx4.keep hb0
      have hb1 := hx4.keep hb1
      have hX4 := hX3.trans hx4
      have HV1 := Lib.hid hv1; clear hv1
      go_wp2_with fail
      refine (HRT.out w4 hX4).mono ?_; rintro e w5 ⟨v2, rfl, hv2, hx5⟩
      have hb0 := hx5.keep hb0
      have hb1 := hx5.keep hb1
      have hX5 := hX4.trans hx5
      have HSI := Lib.hid (sameInts_c v1 v2 ML ML w5 (Ints.ext HV1.out hx5) hv2)
      rw [sameIntsB_iff, beq_self_eq_true] at HSI
      clear hv2
      go_wp2_with fail
      refine HSI.out.mono ?_; rintro e w6 ⟨rfl, n6, hw6⟩
      have hx6 : Ext w5 w6 := by rw [hw6]; exact Ext.drewN _ _
      clear hw6
      have hb0 := hx6.keep hb0
      have hb1 := hx6.keep hb1
      have hX6 := hX5.trans hx6
      clear hx2 hx3 hx4 hx5 hx6 hX1 hX2 hX3 hX4 hX5 hB1
      go_wp2_with fail
      refine (HBK.out w6 hX6).mono ?_; rintro e w7 ⟨rfl, hx7⟩
      have hX7 := hX6.trans hx7
      go_wp2_with fail
      refine (known_c _).mono ?_; rintro e w8 ⟨rfl, hx8⟩
      go_wp2_with fail
      go_ret
      exact RV.bool rfl (hX7.trans hx8)
  · rw [hl] at HL
    clear hl
    go_enter Try.func7, Try.ntmps7
    go_wp2_with fail
    refine HL.out.mono ?_; rintro e w1 ⟨rfl, hB1⟩
    go_wp2_with fail
    refine (known_c _).mono ?_; rintro e w2 ⟨rfl, hB2⟩
    go_wp2_with fail
    go_ret
    exact RV.bool rfl ((hA.trans hB1).trans hB2)
end Go.Proofs.Ytoepnpjjmfhnnaa
