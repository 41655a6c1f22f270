/- CellSames: which paradigms have the same forms, agrees with the reference and with Fill. No condition. -/
import Derived.Test.YtoepnpjjmfhnnaaSame
namespace Go.Proofs.Ytoepnpjjmfhnnaa
open Go.RowKit Go.Shelf
set_option linter.unusedVariables false

theorem sameK_zero {sizes : List Int} {es : List Ent} {ss : List Int} {fs : List Ent} (h : sameK sizes es ss fs = 0) : validI sizes es = 0 ∧ validI ss fs = 0 ∧ sameIntsB sizes ss = true := by
  unfold sameK at h
  split at h
  · rename_i h1
    split at h
    · rename_i h2
      split at h
      · rename_i h3; exact ⟨h1, h2, h3⟩
      · omega
    · rename_i h2; exact absurd h h2
  · rename_i h1; exact absurd h h1

set_option maxHeartbeats 1000000 in
set_option maxRecDepth 100000 in
theorem cellSames_c (sv ev : Value) (sizes : List Int) (es : List Ent) (tv fv : Value) (ss : List Int) (fs : List Ent) (w : World) (hp : Par w sv ev sizes es) (hq : Par w tv fv ss fs) :
    Calls Try.prog 5 #[.agg #[sv, ev], .agg #[tv, fv]] w (RV (.bool true) w) := by
  obtain ⟨wA, hwA⟩ : ∃ wA, wA = w.alloc (.cells #[sv, ev] 25) := ⟨_, rfl⟩
  obtain ⟨wB, hwB⟩ : ∃ wB, wB = wA.alloc (.cells #[tv, fv] 25) := ⟨_, rfl⟩
  have xA : Ext w wA := by rw [hwA]; exact Ext.alloc _ _
  have xB : Ext wA wB := by rw [hwB]; exact Ext.alloc _ _
  have zA : wA.heap.size = w.heap.size + 1 := by rw [hwA]; simp
  have hX := xA.trans xB
  have a0 : wB.cell? ⟨w.heap.size, 0, none⟩ = some sv := xB.keep (by rw [hwA]; exact alloc_cell _ _ _ rfl)
  have a1 : wB.cell? ⟨w.heap.size, 1, none⟩ = some ev := xB.keep (by rw [hwA]; exact alloc_cell _ _ _ rfl)
  have b0 : wB.cell? ⟨w.heap.size + 1, 0, none⟩ = some tv := by rw [hwB, ← zA]; exact alloc_cell _ _ _ rfl
  have b1 : wB.cell? ⟨w.heap.size + 1, 1, none⟩ = some fv := by rw [hwB, ← zA]; exact alloc_cell _ _ _ rfl
  have HLp := Lib.hid (fun W (h : Ext w W) => long_c sv ev sizes es W (hp.ext h))
  have HLq := Lib.hid (fun W (h : Ext w W) => long_c tv fv ss fs W (hq.ext h))
  have HSa := Lib.hid (fun W (h : Ext w W) => Same_c sv ev tv fv sizes es ss fs W (hp.ext h) (hq.ext h))
  have HRSa := Lib.hid (fun W (h : Ext w W) => rSame_c sv ev tv fv sizes es ss fs W (hp.ext h) (hq.ext h))
  have HFp := Lib.hid (fun W (h : Ext w W) => Fill_c sv ev sizes es W (hp.ext h))
  have HFq := Lib.hid (fun W (h : Ext w W) => Fill_c tv fv ss fs W (hq.ext h))
  have HW := Lib.hid (And.intro hwA hwB); clear hwA hwB zA
  clear hp hq
  cases hl : longB sizes es
  · rw [hl] at HLp
    clear hl
    cases hl : longB ss fs
    · rw [hl] at HLq
      clear hl
      have hvv : sameK sizes es ss fs = 0 → sameV sizes es ss fs = sameIntsB (fillL sizes es) (fillL ss fs) := fun h => by
        obtain ⟨h1, h2, h3⟩ := sameK_zero h
        simp [sameV, h1, h2, h3]
      by_cases h0 : sameK sizes es ss fs = 0
      · obtain ⟨h1, h2, _⟩ := sameK_zero h0
        rw [h0, hvv h0] at HSa HRSa
        rw [h1, if_pos rfl] at HFp
        rw [h2, if_pos rfl] at HFq
        clear hvv h0 h1 h2
        generalize fillL sizes es = L at *
        generalize fillL ss fs = M at *
        have HSI := Lib.hid (fun v u W (h1 : Ints W v L) (h2 : Ints W u M) => sameInts_c v u L M W h1 h2)
        generalize sameIntsB L M = bb at *
        cases bb
        all_goals
          go_enter Try.func5, Try.ntmps5
          go_wp2_with fail
          rw [← HW.out.1, ← HW.out.2]
          refine (HLp.out _ hX).mono ?_; rintro e w1 ⟨rfl, hx1⟩
          have a0 := hx1.keep a0
          have a1 := hx1.keep a1
          have b0 := hx1.keep b0
          have b1 := hx1.keep b1
          replace hx1 := hX.trans hx1
          go_wp2_with fail
          refine (HLq.out _ hx1).mono ?_; rintro e w2 ⟨rfl, hx2⟩
          have a0 := hx2.keep a0
          have a1 := hx2.keep a1
          have b0 := hx2.keep b0
          have b1 := hx2.keep b1
          replace hx2 := hx1.trans hx2
          go_wp2_with fail
          refine (HSa.out _ hx2).mono ?_; rintro e w3 ⟨v3, rfl, hv3, hx3⟩
          simp only [isBool] at hv3
          subst hv3
          have a0 := hx3.keep a0
          have a1 := hx3.keep a1
          have b0 := hx3.keep b0
          have b1 := hx3.keep b1
          replace hx3 := hx2.trans hx3
          go_wp2_with fail
          refine (HRSa.out _ hx3).mono ?_; rintro e w4 ⟨v4, rfl, hv4, hx4⟩
          simp only [isBool] at hv4
          subst hv4
          have a0 := hx4.keep a0
          have a1 := hx4.keep a1
          have b0 := hx4.keep b0
          have b1 := hx4.keep b1
          replace hx4 := hx3.trans hx4
          go_wp2_with fail
          refine (HFp.out _ hx4).mono ?_; rintro e w5 ⟨v5, rfl, hv5, hx5⟩
          have HV5 := Lib.hid hv5; clear hv5
          have b0 := hx5.keep b0
          have b1 := hx5.keep b1
          have hx5' := hx4.trans hx5
          go_wp2_with fail
          refine (HFq.out _ hx5').mono ?_; rintro e w6 ⟨v6, rfl, hv6, hx6⟩
          have HV6 := Lib.hid hv6; clear hv6
          go_wp2_with fail
          refine (HSI.out _ _ w6 (Ints.ext HV5.out hx6) HV6.out).mono ?_; rintro e w7 ⟨rfl, n7, hw7⟩
          have hx7 : Ext w w7 := (hx5'.trans hx6).trans (by rw [hw7]; exact Ext.drewN _ _)
          clear hw7
          go_wp2_with fail
          refine (known_c _).mono ?_; rintro e w8 ⟨rfl, hx8⟩
          go_wp2_with fail
          go_ret
          exact RV.bool rfl (hx7.trans hx8)
      · generalize sameK sizes es ss fs = k at *
        generalize sameV sizes es ss fs = bb at *
        have hk : (k != 0) = true := by simp [h0]
        have hkk : (k == k) = true := by simp
        have hkk2 : (k != k) = false := by simp
        clear hvv h0
        generalize (if validI sizes es = 0 then fillL sizes es else []) = L at *
        generalize (if validI ss fs = 0 then fillL ss fs else []) = M at *
        generalize validI sizes es = k1 at *
        generalize validI ss fs = k2 at *
        cases bb
        all_goals
          go_enter Try.func5, Try.ntmps5
          go_wp2_with fail
          rw [← HW.out.1, ← HW.out.2]
          refine (HLp.out _ hX).mono ?_; rintro e w1 ⟨rfl, hx1⟩
          have a0 := hx1.keep a0
          have a1 := hx1.keep a1
          have b0 := hx1.keep b0
          have b1 := hx1.keep b1
          replace hx1 := hX.trans hx1
          go_wp2_with fail
          refine (HLq.out _ hx1).mono ?_; rintro e w2 ⟨rfl, hx2⟩
          have a0 := hx2.keep a0
          have a1 := hx2.keep a1
          have b0 := hx2.keep b0
          have b1 := hx2.keep b1
          replace hx2 := hx1.trans hx2
          go_wp2_with fail
          refine (HSa.out _ hx2).mono ?_; rintro e w3 ⟨v3, rfl, hv3, hx3⟩
          simp only [isBool] at hv3
          subst hv3
          have a0 := hx3.keep a0
          have a1 := hx3.keep a1
          have b0 := hx3.keep b0
          have b1 := hx3.keep b1
          replace hx3 := hx2.trans hx3
          go_wp2_with fail
          refine (HRSa.out _ hx3).mono ?_; rintro e w4 ⟨v4, rfl, hv4, hx4⟩
          simp only [isBool] at hv4
          subst hv4
          have a0 := hx4.keep a0
          have a1 := hx4.keep a1
          have b0 := hx4.keep b0
          have b1 := hx4.keep b1
          replace hx4 := hx3.trans hx4
          go_wp2_with fail
          refine (HFp.out _ hx4).mono ?_; rintro e w5 ⟨v5, rfl, hv5, hx5⟩
          have HV5 := Lib.hid hv5; clear hv5
          have b0 := hx5.keep b0
          have b1 := hx5.keep b1
          have hx5' := hx4.trans hx5
          go_wp2_with fail
          refine (HFq.out _ hx5').mono ?_; rintro e w6 ⟨v6, rfl, hv6, hx6⟩
          have HV6 := Lib.hid hv6; clear hv6
          go_wp2_with fail
          refine (known_c _).mono ?_; rintro e w8 ⟨rfl, hx8⟩
          go_wp2_with fail
          go_ret
          exact RV.bool rfl ((hx5'.trans hx6).trans hx8)
    · rw [hl] at HLq
      clear hl
      go_enter Try.func5, Try.ntmps5
      go_wp2_with fail
      rw [← HW.out.1, ← HW.out.2]
      refine (HLp.out _ hX).mono ?_; rintro e w1 ⟨rfl, hx1⟩
      have b0 := hx1.keep b0
      have b1 := hx1.keep b1
      replace hx1 := hX.trans hx1
      go_wp2_with fail
      refine (HLq.out _ hx1).mono ?_; rintro e w2 ⟨rfl, hx2⟩
      go_wp2_with fail
      refine (known_c _).mono ?_; rintro e w8 ⟨rfl, hx8⟩
      go_wp2_with fail
      go_ret
      exact RV.bool rfl ((hx1.trans hx2).trans hx8)
  · rw [hl] at HLp
    clear hl
    go_enter Try.func5, Try.ntmps5
    go_wp2_with fail
    rw [← HW.out.1, ← HW.out.2]
    refine (HLp.out _ hX).mono ?_; rintro e w1 ⟨rfl, hx1⟩
    go_wp2_with fail
    refine (known_c _).mono ?_; rintro e w8 ⟨rfl, hx8⟩
    go_wp2_with fail
    go_ret
    exact RV.bool rfl ((hX.trans hx1).trans hx8)
end Go.Proofs.Ytoepnpjjmfhnnaa
