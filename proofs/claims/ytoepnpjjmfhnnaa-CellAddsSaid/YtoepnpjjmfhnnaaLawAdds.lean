/- CellAdds: a paradigm with one more entry agrees with the reference, and cells for which the entry does not hold keep their forms. No condition. -/
import Derived.Test.YtoepnpjjmfhnnaaAddP
namespace Go.Proofs.Ytoepnpjjmfhnnaa
open Go.RowKit Go.Shelf
set_option linter.unusedVariables false

theorem addK_zero {sizes : List Int} {es : List Ent} {x : List Int} {f : Int} (h : addK sizes es x f = 0) : ValidP sizes es ∧ ValidP sizes (es ++ [(x, f)]) := by
  unfold addK at h
  split at h
  · rename_i h1; exact ⟨validI_zero h1, validI_zero h⟩
  · rename_i h1; exact absurd h h1

set_option maxHeartbeats 2000000 in
set_option maxRecDepth 100000 in
theorem cellAdds_c (sv ev : Value) (sizes : List Int) (es : List Ent) (xv : Value) (x : List Int) (f : Int) (w : World) (hp : Par w sv ev sizes es) (hx : Ints w xv x) :
    Calls Try.prog 9 #[.agg #[sv, ev], .agg #[xv, .int .i64 f]] w (RV (.bool true) w) := by
  have HP := Lib.hid hp; have HXI := Lib.hid hx
  obtain ⟨ax, cx, rfl, _⟩ := hx.open_
  clear hp hx
  obtain ⟨wA, hwA⟩ : ∃ wA, wA = (w.alloc (.cells #[sv, ev] 25)).alloc (.cells #[.slice ax x.length cx, .int .i64 f] 54) := ⟨_, rfl⟩
  have hE0 : Ext w wA := by rw [hwA]; exact (Ext.alloc _ _).trans (Ext.alloc _ _)
  have hz1 : BoxP wA w.heap.size sv ev := by rw [hwA]; exact (BoxP.new w _ _ rfl).ext (Ext.alloc _ _)
  have hu0 : wA.cell? ⟨w.heap.size + 1, 0, none⟩ = some (.slice ax x.length cx) := by
    rw [hwA]
    have := alloc_cell (w.alloc (.cells #[sv, ev] 25)) #[.slice ax x.length cx, .int .i64 f] 54 (i := 0) rfl
    rwa [World.size_alloc] at this
  have hu1 : wA.cell? ⟨w.heap.size + 1, 1, none⟩ = some (.int .i64 f) := by
    rw [hwA]
    have := alloc_cell (w.alloc (.cells #[sv, ev] 25)) #[.slice ax x.length cx, .int .i64 f] 54 (i := 1) rfl
    rwa [World.size_alloc] at this
  have hb0 := hz1.c0
  have hb1 := hz1.c1
  have HL := Lib.hid (long_c sv ev sizes es wA (HP.out.ext hE0))
  have HW := Lib.hid hwA; clear hwA hz1
  cases hl : longB sizes es
  · rw [hl] at HL
    clear hl
    have HLA := Lib.hid (fun W (h : Ext w W) => large_c _ x W (HXI.out.ext h))
    cases hla : decide (100 < x.length)
    · rw [hla] at HLA
      have hn : x.length ≤ 1000 := by simp at hla; omega
      clear hla
      have HAD := Lib.hid (fun W (h : Ext w W) => Add_c sv ev _ sizes es x f W (HP.out.ext h) (HXI.out.ext h) hn)
      have HRA := Lib.hid (fun W (h : Ext w W) => rAdd_c sv ev _ sizes es x f W (HP.out.ext h) (HXI.out.ext h) hn)
      have HCE := Lib.hid (fun W (h : Ext w W) => Cells_c sv ev sizes es W (HP.out.ext h))
      have HFI := Lib.hid (fun W (h : Ext w W) => Fill_c sv ev sizes es W (HP.out.ext h))
      have HZ := Lib.hid (addK_zero (sizes := sizes) (es := es) (x := x) (f := f))
      go_enter Try.func9, Try.ntmps9
      go_wp2_with fail
      rw [← HW.out]
      refine HL.out.mono ?_; rintro e w1 ⟨rfl, hB1⟩
      have hb0 := hB1.keep hb0
      have hb1 := hB1.keep hb1
      have hu0 := hB1.keep hu0
      have hu1 := hB1.keep hu1
      have hX1 := hE0.trans hB1
      go_wp2_with fail
      refine (HLA.out w1 hX1).mono ?_; rintro e w1' ⟨rfl, rfl⟩
      go_wp2_with fail
      refine (HAD.out w1 hX1).mono ?_; rintro e w2 ⟨s2, e2, rfl, hov, hoe, hx2⟩
      obtain ⟨a2, c2, rfl, _⟩ := hov.ints.open_
      obtain ⟨a3, c3, rfl, _⟩ := hoe.ents.open_
      have HQ1 := Lib.hid (show Par w2 _ _ _ _ from ⟨hov.ints, hoe.ents⟩)
      clear hov hoe
      have hA5 := Ext.alloc w2 (.cells #[.slice a2 (addS sizes es x f).length c2, .slice a3 (addE sizes es x f).length c3] 25)
      have hbx := BoxP.new w2 (.slice a2 (addS sizes es x f).length c2) (.slice a3 (addE sizes es x f).length c3) rfl
      have hy3 := hx2.trans hA5
      have hb0 := hy3.keep hb0
      have hb1 := hy3.keep hb1
      have hu0 := hy3.keep hu0
      have hu1 := hy3.keep hu1
      have hX3 := hX1.trans hy3
      go_wp2_with fail
      refine (HRA.out _ hX3).mono ?_; rintro e w4 ⟨s4, e4, rfl, hov, hoe, hx4⟩
      obtain ⟨a4, c4, rfl, _⟩ := hov.ints.open_
      obtain ⟨a5, c5, rfl, _⟩ := hoe.ents.open_
      have HQ2 := Lib.hid (show Par w4 _ _ _ _ from ⟨hov.ints, hoe.ents⟩)
      clear hov hoe
      have hA6 := Ext.alloc w4 (.cells #[.slice a4 (addS sizes es x f).length c4, .slice a5 (addE sizes es x f).length c5] 25)
      have hbx := hbx.ext (hx4.trans hA6)
      have hbz := BoxP.new w4 (.slice a4 (addS sizes es x f).length c4) (.slice a5 (addE sizes es x f).length c5) rfl
      have hy5 := hx4.trans hA6
      have hb0 := hy5.keep hb0
      have hb1 := hy5.keep hb1
      have hu0 := hy5.keep hu0
      have hu1 := hy5.keep hu1
      have hX5 := hX3.trans hy5
      have m0 := hbx.c0
      have m1 := hbx.c1
      have z0 := hbz.c0
      have z1 := hbz.c1
      have HEQ := Lib.hid (Equal_c _ _ _ _ _ _ _ _ _ (HQ1.out.ext (hA5.trans hy5)) (HQ2.out.ext hA6))
      rw [eqP_refl] at HEQ
      go_wp2_with fail
      refine HEQ.out.mono ?_; rintro e w6 ⟨rfl, hx6⟩
      have hb0 := hx6.keep hb0
      have hb1 := hx6.keep hb1
      have hu0 := hx6.keep hu0
      have m0 := hx6.keep m0
      have m1 := hx6.keep m1
      have hX6 := hX5.trans hx6
      have HQ6 := Lib.hid (HQ1.out.ext ((hA5.trans hy5).trans hx6))
      clear z0 z1 hbx hbz hA5 hA6 hy3 hy5 hx6 hX5 hX3 hX1
      go_wp2_with fail
      refine (HCE.out w6 hX6).mono ?_; rintro e w7 ⟨v7, rfl, hr7, hx7⟩
      have hb0 := hx7.keep hb0
      have hb1 := hx7.keep hb1
      have hu0 := hx7.keep hu0
      have m0 := hx7.keep m0
      have m1 := hx7.keep m1
      have hX7 := hX6.trans hx7
      have HR7 := Lib.hid hr7; clear hr7
      go_wp2_with fail
      refine (HFI.out w7 hX7).mono ?_; rintro e w8 ⟨v8, rfl, hr8, hx8⟩
      have hu0 := hx8.keep hu0
      have m0 := hx8.keep m0
      have m1 := hx8.keep m1
      have hX8 := hX7.trans hx8
      have HR8 := Lib.hid hr8; clear hr8
      go_wp2_with fail
      refine (Fill_c _ _ _ _ w8 (HQ6.out.ext (hx7.trans hx8))).mono ?_; rintro e w9 ⟨v9, rfl, hr9, hx9⟩
      have hu0 := hx9.keep hu0
      have hX9 := hX8.trans hx9
      have HR9 := Lib.hid hr9; clear hr9
      by_cases hk0 : addK sizes es x f = 0
      · obtain ⟨V, V2⟩ := HZ.out hk0
        have hS : addS sizes es x f = sizes := by rw [addS, if_pos hk0]
        have hE : addE sizes es x f = es ++ [(x, f)] := by rw [addE, if_pos hk0]
        rw [hk0, hS, hE, validI_of V, validI_of V2]
        rw [hS, hE, validI_of V2, if_pos rfl] at HR9
        rw [validI_of V, if_pos rfl] at HR7 HR8
        have hlast : es.length < (es ++ [(x, f)]).length := by simp
        have hlx := V2.len es.length hlast
        have hlo := V2.spec es.length hlast
        rw [ent_last] at hlx hlo
        have HLX := Lib.hid hlx; have HLO := Lib.hid hlo; have HOK := Lib.hid V.ok
        have HLEN := Lib.hid (fun k hk => cells_len V.ok (k := k) hk)
        have HKEEP := Lib.hid (fun k (hk : k < (cellsOf sizes).length) (hh : holdsB x ((cellsOf sizes)[k]?.getD []) = false) =>
          show (fillL sizes (es ++ [(x, f)]))[k]?.getD 0 = (fillL sizes es)[k]?.getD 0 by
            rw [fillL, fillL, List.getElem?_map, List.getElem?_map, List.getElem?_eq_getElem hk]
            rw [List.getElem?_eq_getElem hk] at hh
            simp only [Option.map_some, Option.getD_some] at hh ⊢
            exact form_append hh)
        have hm1 : (fillL sizes es).length = (cellsOf sizes).length := by simp [fillL]
        have hm2 : (fillL sizes (es ++ [(x, f)])).length = (cellsOf sizes).length := by simp [fillL]
        have hcount := (cells_count V.ok).2
        clear hlx hlo V V2 hS hE hk0 hlast
        generalize fillL sizes es = M at *
        generalize fillL sizes (es ++ [(x, f)]) = N at *
        generalize cellsOf sizes = L at *
        obtain ⟨a7, c7, rfl, _, _, H7⟩ := Rows.open_ HR7.out
        obtain ⟨a8, c8, rfl, _, _, H8⟩ := Ints.open_ HR8.out
        obtain ⟨a9, c9, rfl, _, _, H9⟩ := Ints.open_ HR9.out
        have HX := Lib.hid (show Ext w7 w9 from hx8.trans hx9)
        have HML := Lib.hid hm1; have HNL := Lib.hid hm2
        have hM1 : L.length ≤ M.length := by omega
        have hN1 : L.length ≤ N.length := by omega
        have hM2 : M.length ≤ L.length := by omega
        have hN2 : N.length ≤ L.length := by omega
        have hML : ((M.length : Int) != (L.length : Int)) = false := by simp [HML.out]
        have hNL : ((N.length : Int) != (L.length : Int)) = false := by simp [HNL.out]
        clear hm1 hm2 HL HLA HAD HRA HCE HFI HZ HEQ HW HP HQ1 HQ2 HQ6 HR7 HR8 HR9 m0 m1 hX6 hX7 hX8 hE0
        go_wp2_with fail
        go_loopg [15] L.length (fun m i wr => ∃ k : Nat, k ≤ L.length ∧ L.length ≤ k + m ∧ i = .int .i64 k ∧ Ext w9 wr)
        case atStart => exact ⟨0, by omega, by omega, rfl, Ext.refl _⟩
        case round =>
          obtain ⟨j, hj, hj2, rfl, hB⟩ := hrel
          by_cases hlt : j < L.length
          · obtain ⟨b7, o7, rfl, u, hc1, hi1⟩ := H7.out j hlt
            obtain ⟨b8, o8, rfl, hc2⟩ := H8.out j (by omega)
            obtain ⟨b9, o9, rfl, hc3⟩ := H9.out j (by omega)
            have q0 := fun s : Later wr => (hB.trans s.ext).keep hu0
            have q1 := fun s : Later wr => (HX.out.trans (hB.trans s.ext)).keep hc1
            have q2 := fun s : Later wr => (hx9.trans (hB.trans s.ext)).keep hc2
            have q3 := fun s : Later wr => (hB.trans s.ext).keep hc3
            have HF := Lib.hid (fun s : Later wr => rHolds_c _ u x (L[j]?.getD []) s.w (HXI.out.ext (hX9.trans (hB.trans s.ext))) (hi1.ext (HX.out.trans (hB.trans s.ext))) (HLX.out.trans (HLEN.out j hlt).symm) (fun i hi => (HLO.out.2 i hi).1))
            have HK := Lib.hid (HKEEP.out j hlt)
            clear hi1 hc1 hc2 hc3
            cases hh : holdsB x (L[j]?.getD [])
            · rw [hh] at HF
              have hk := HK.out hh
              rw [hk] at q3
              generalize M[j]?.getD 0 = mj at *
              clear hk HK hh
              have hmj : (mj != mj) = false := by simp
              go_wp2_with fail
              refine wp_region_later (by kernel_rfl) (by kernel_rfl) ?_
              repeat (go_big_quiet_step ((go_at_call 45; exact Later.callQ (HF.out _))))
              refine wpQuiet_nil ?_
              intro _ hw'
              obtain ⟨⟨wq, hq⟩, rfl⟩ := hw'
              clear q0 q1 q2 q3
              go_wp2_with fail
              go_roundg (gk-1)
              case measure => omega
              case rel => exact ⟨j+1, by omega, by omega, by go_num, hB.trans hq⟩
            · rw [hh] at HF
              clear HK hh
              go_wp2_with fail
              refine wp_region_later (by kernel_rfl) (by kernel_rfl) ?_
              repeat (go_big_quiet_step ((go_at_call 45; exact Later.callQ (HF.out _))))
              refine wpQuiet_nil ?_
              intro _ hw'
              obtain ⟨⟨wq, hq⟩, rfl⟩ := hw'
              clear q0 q1 q2 q3
              go_wp2_with fail
              go_roundg (gk-1)
              case measure => omega
              case rel => exact ⟨j+1, by omega, by omega, by go_num, hB.trans hq⟩
          · go_wp2_with fail
            refine (known_c _).mono ?_; rintro e w5 ⟨rfl, hB2⟩
            go_wp2_with fail
            go_ret
            exact RV.bool rfl ((hX9.trans hB).trans hB2)
      · have hkn : (addK sizes es x f != 0) = true := by simp [hk0]
        generalize addK sizes es x f = k at *
        generalize addS sizes es x f = S at *
        generalize addE sizes es x f = E at *
        clear hk0
        go_wp2_with fail
        refine (known_c _).mono ?_; rintro e w10 ⟨rfl, hx10⟩
        go_wp2_with fail
        go_ret
        exact RV.bool rfl (hX9.trans hx10)
    · rw [hla] at HLA
      clear hla
      go_enter Try.func9, Try.ntmps9
      go_wp2_with fail
      rw [← HW.out]
      refine HL.out.mono ?_; rintro e w1 ⟨rfl, hB1⟩
      have hu0 := hB1.keep hu0
      have hX1 := hE0.trans hB1
      go_wp2_with fail
      refine (HLA.out w1 hX1).mono ?_; rintro e w1' ⟨rfl, rfl⟩
      go_wp2_with fail
      refine (known_c _).mono ?_; rintro e w2 ⟨rfl, hB2⟩
      go_wp2_with fail
      go_ret
      exact RV.bool rfl (hX1.trans hB2)
  · rw [hl] at HL
    clear hl
    go_enter Try.func9, Try.ntmps9
    go_wp2_with fail
    rw [← HW.out]
    refine HL.out.mono ?_; rintro e w1 ⟨rfl, hB1⟩
    have hX1 := hE0.trans hB1
    go_wp2_with fail
    refine (known_c _).mono ?_; rintro e w2 ⟨rfl, hB2⟩
    go_wp2_with fail
    go_ret
    exact RV.bool rfl (hX1.trans hB2)
end Go.Proofs.Ytoepnpjjmfhnnaa
