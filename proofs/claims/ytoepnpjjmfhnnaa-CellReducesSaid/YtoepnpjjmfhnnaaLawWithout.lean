/- CellWithout: a paradigm without an entry agrees with the reference, and its forms are the same exactly if the entry was needless. No condition. -/
import Derived.Test.YtoepnpjjmfhnnaaRed
namespace Go.Proofs.Ytoepnpjjmfhnnaa
open Go.RowKit Go.Shelf
set_option linter.unusedVariables false

theorem has_sel {n a : Nat} {f : Nat → Bool} (ha : a < n) : hasB (sel n f) a = f a := by
  rw [hasB_eq, Bool.eq_iff_iff, List.contains_iff_mem, mem_sel]
  constructor
  · rintro ⟨k, _, h, he⟩
    have : a = k := by omega
    subst this; exact h
  · intro h; exact ⟨a, ha, h, rfl⟩
theorem sameK_ok {sizes : List Int} {es fs : List Ent} (V : ValidP sizes es) (V2 : ValidP sizes fs) : sameK sizes es sizes fs = 0 := by
  rw [sameK, validI_of V, validI_of V2, sameIntsB_refl]; rfl
theorem sameV_ok {sizes : List Int} {es fs : List Ent} (V : ValidP sizes es) (V2 : ValidP sizes fs) : sameV sizes es sizes fs = sameIntsB (fillL sizes es) (fillL sizes fs) := by
  rw [sameV, validI_of V, validI_of V2, sameIntsB_refl]; simp

set_option maxHeartbeats 2000000 in
set_option maxRecDepth 100000 in
theorem cellWithout_c (sv ev : Value) (sizes : List Int) (es : List Ent) (i : Int) (w : World) (hp : Par w sv ev sizes es) (_ : (Lit.int .i64 i).wf = true) :
    Calls Try.prog 13 #[.agg #[sv, ev], .int .i64 i] w (RV (.bool true) w) := by
  have HP := Lib.hid hp
  obtain ⟨wA, hwA⟩ : ∃ wA, wA = w.alloc (.cells #[sv, ev] 25) := ⟨_, rfl⟩
  have hE0 : Ext w wA := by rw [hwA]; exact Ext.alloc _ _
  have hz1 : BoxP wA w.heap.size sv ev := by rw [hwA]; exact BoxP.new w _ _ rfl
  have hb0 := hz1.c0
  have hb1 := hz1.c1
  have HL := Lib.hid (long_c sv ev sizes es wA (hp.ext hE0))
  have HW := Lib.hid hwA; clear hwA hz1 hp
  cases hl : longB sizes es
  · rw [hl] at HL
    clear hl
    have HSW := Lib.hid (fun W (h : Ext w W) => Without_c sv ev sizes es i W (HP.out.ext h))
    have HRS := Lib.hid (fun W (h : Ext w W) => rWithout_c sv ev sizes es i W (HP.out.ext h))
    have HZ : nK sizes es i i = 0 → ValidP sizes es ∧ ValidP sizes (woE sizes es i) ∧ woS sizes es i = sizes ∧ sameV (woS sizes es i) (woE sizes es i) sizes es = hasB (needL sizes es) i := fun h => by
      obtain ⟨V, a, _, rfl, hbb, ha, _⟩ := nK_zero h
      clear hbb
      rw [woE, if_pos h, woS, if_pos h]
      exact ⟨V, erase_valid V ha, rfl, (sameV_ok (erase_valid V ha) V).trans (has_sel (f := needB sizes es) ha).symm⟩
    replace HZ := Lib.hid HZ
    have HNE := Lib.hid (fun W (h : Ext w W) => Needless_c sv ev sizes es W (HP.out.ext h))
    generalize nK sizes es i i = k at *
    generalize woS sizes es i = S at *
    generalize woE sizes es i = E at *
    go_enter Try.func13, Try.ntmps13
    go_wp2_with fail
    rw [← HW.out]
    refine HL.out.mono ?_; rintro e w1 ⟨rfl, hB1⟩
    have hb0 := hB1.keep hb0
    have hb1 := hB1.keep hb1
    have hX1 := hE0.trans hB1
    go_wp2_with fail
    refine (HSW.out w1 hX1).mono ?_; rintro e w2 ⟨s2, e2, rfl, hov, hoe, hx2⟩
    obtain ⟨a2, c2, rfl, _⟩ := hov.ints.open_
    obtain ⟨a3, c3, rfl, _⟩ := hoe.ents.open_
    have HQ1 := Lib.hid (show Par w2 _ _ _ _ from ⟨hov.ints, hoe.ents⟩)
    clear hov hoe
    have hA5 := Ext.alloc w2 (.cells #[.slice a2 S.length c2, .slice a3 E.length c3] 25)
    have hbx := BoxP.new w2 (.slice a2 S.length c2) (.slice a3 E.length c3) rfl
    have hy3 := hx2.trans hA5
    have hb0 := hy3.keep hb0
    have hb1 := hy3.keep hb1
    have hX3 := hX1.trans hy3
    go_wp2_with fail
    refine (HRS.out _ hX3).mono ?_; rintro e w4 ⟨s4, e4, rfl, hov, hoe, hx4⟩
    obtain ⟨a4, c4, rfl, _⟩ := hov.ints.open_
    obtain ⟨a5, c5, rfl, _⟩ := hoe.ents.open_
    have HQ2 := Lib.hid (show Par w4 _ _ _ _ from ⟨hov.ints, hoe.ents⟩)
    clear hov hoe
    have hA6 := Ext.alloc w4 (.cells #[.slice a4 S.length c4, .slice a5 E.length c5] 25)
    have hbx := hbx.ext (hx4.trans hA6)
    have hbz := BoxP.new w4 (.slice a4 S.length c4) (.slice a5 E.length c5) rfl
    have hy5 := hx4.trans hA6
    have hb0 := hy5.keep hb0
    have hb1 := hy5.keep hb1
    have hX5 := hX3.trans hy5
    have m0 := hbx.c0
    have m1 := hbx.c1
    have z0 := hbz.c0
    have z1 := hbz.c1
    have HEQ := Lib.hid (Equal_c _ _ _ _ _ _ _ _ _ (HQ1.out.ext (hA5.trans hy5)) (HQ2.out.ext hA6))
    rw [eqP_refl] at HEQ
    go_wp2_with fail
    refine HEQ.out.mono ?_; rintro e w6 ⟨rfl, hx6⟩
    have hb0 := hx6.keep hb0
    have hb1 := hx6.keep hb1
    have m0 := hx6.keep m0
    have m1 := hx6.keep m1
    have hX6 := hX5.trans hx6
    have HQ6 := Lib.hid (HQ1.out.ext ((hA5.trans hy5).trans hx6))
    clear z0 z1 hbx hbz hA5 hA6 hy3 hy5 hx6 hX5 hX3 hX1
    go_wp2_with fail
    refine (Same_c _ _ _ _ S E sizes es w6 HQ6.out (HP.out.ext hX6)).mono ?_; rintro e w8 ⟨v8, rfl, rfl, hx8⟩
    have hb0 := hx8.keep hb0
    have hb1 := hx8.keep hb1
    have hX8 := hX6.trans hx8
    go_wp2_with fail
    refine (HNE.out w8 hX8).mono ?_; rintro e w9 ⟨v9, rfl, hr9, hx9⟩
    have hX9 := hX8.trans hx9
    have HR9 := Lib.hid hr9; clear hr9
    by_cases hk0 : k = 0
    · subst hk0
      obtain ⟨V, V2, hS, hF⟩ := HZ.out rfl
      rw [hF]
      rw [hS, sameK_ok V2 V, validI_of V]
      rw [validI_of V, if_pos rfl] at HR9
      have HSI := Lib.hid (has_c v9 (needL sizes es) i w9 HR9.out)
      generalize hasB (needL sizes es) i = nb at *
      clear V V2 hS hF m0 m1
      have hnn : (nb == nb) = true := by simp
      go_wp2_with fail
      refine HSI.out.mono ?_; rintro e w10 ⟨rfl, rfl⟩
      go_wp2_with fail
      refine (known_c _).mono ?_; rintro e w11 ⟨rfl, hx11⟩
      go_wp2_with fail
      go_ret
      exact RV.bool rfl (hX9.trans hx11)
    · have hkn : (k != 0) = true := by simp [hk0]
      have hkk : (k != k) = false := by simp
      generalize sameV S E sizes es = nb at *
      generalize sameK S E sizes es = nk at *
      clear hk0
      go_wp2_with fail
      refine (known_c _).mono ?_; rintro e w10 ⟨rfl, hx10⟩
      go_wp2_with fail
      go_ret
      exact RV.bool rfl (hX9.trans hx10)
  · rw [hl] at HL
    clear hl
    go_enter Try.func13, Try.ntmps13
    go_wp2_with fail
    rw [← HW.out]
    refine HL.out.mono ?_; rintro e w1 ⟨rfl, hB1⟩
    have hX1 := hE0.trans hB1
    go_wp2_with fail
    refine (known_c _).mono ?_; rintro e w2 ⟨rfl, hB2⟩
    go_wp2_with fail
    go_ret
    exact RV.bool rfl (hX1.trans hB2)
end Go.Proofs.Ytoepnpjjmfhnnaa
