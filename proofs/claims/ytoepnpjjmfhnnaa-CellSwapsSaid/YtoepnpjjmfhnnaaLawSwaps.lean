/- CellSwaps: a paradigm with two entries exchanged agrees with the reference, and its forms are the same. No condition. -/
import Derived.Test.YtoepnpjjmfhnnaaRSwap
import Derived.Test.YtoepnpjjmfhnnaaDec
namespace Go.Proofs.Ytoepnpjjmfhnnaa
open Go.RowKit Go.Shelf
set_option linter.unusedVariables false

def flip (a b i : Nat) : Nat := if i = a then b else if i = b then a else i
theorem flip_flip (a b i : Nat) : flip a b (flip a b i) = i := by
  unfold flip
  by_cases h1 : i = a
  · subst h1; simp only [if_true]
    by_cases h2 : b = i
    · simp [h2]
    · simp [h2]
  · by_cases h2 : i = b
    · subst h2; simp [h1]
    · simp [h1, h2]
theorem swapE_len (es : List Ent) (a b : Nat) : (swapE es a b).length = es.length := by simp [swapE]
theorem ent_set (es : List Ent) (a i : Nat) (e : Ent) (ha : a < es.length) : ent (es.set a e) i = if i = a then e else ent es i := by
  unfold ent
  rw [List.getElem?_set]
  by_cases h : a = i
  · subst h; simp [ha]
  · rw [if_neg h, if_neg (Ne.symm h)]
theorem swapE_ent {es : List Ent} {a b : Nat} (ha : a < es.length) (hb : b < es.length) (i : Nat) : ent (swapE es a b) i = ent es (flip a b i) := by
  unfold swapE flip
  rw [ent_set _ b i _ (by simpa using hb), ent_set _ a i _ ha]
  by_cases h1 : i = b
  · subst h1
    by_cases h2 : i = a
    · subst h2; simp
    · simp [h2]
  · by_cases h2 : i = a
    · subst h2; simp [h1]
    · simp [h1, h2]
theorem flip_lt {n a b i : Nat} (ha : a < n) (hb : b < n) (hi : i < n) : flip a b i < n := by
  unfold flip; split
  · exact hb
  · split
    · exact ha
    · exact hi
theorem swap_valid {sizes : List Int} {es : List Ent} {a b : Nat} (V : ValidP sizes es) (ha : a < es.length) (hb : b < es.length) : ValidP sizes (swapE es a b) :=
  ⟨V.ok, by rw [swapE_len]; exact V.n, fun i hi => by rw [swapE_len] at hi; rw [swapE_ent ha hb]; exact V.ent _ (flip_lt ha hb hi)⟩
theorem swap_fill {sizes : List Int} {es : List Ent} {a b : Nat} (ha : a < es.length) (hb : b < es.length) : fillL sizes (swapE es a b) = fillL sizes es := by
  unfold fillL
  refine List.map_congr_left fun c _ => ?_
  exact form_perm (flip a b) (swapE_len es a b) (flip_flip a b) (fun i hi => flip_lt ha hb hi) (fun i hi => swapE_ent ha hb i)

set_option maxHeartbeats 2000000 in
set_option maxRecDepth 100000 in
theorem cellSwaps_c (sv ev : Value) (sizes : List Int) (es : List Ent) (i j : Int) (w : World) (hp : Par w sv ev sizes es) (_ : (Lit.int .i64 i).wf = true) (_ : (Lit.int .i64 j).wf = true) :
    Calls Try.prog 6 #[.agg #[sv, ev], .int .i64 i, .int .i64 j] w (RV (.bool true) w) := by
  have HP := Lib.hid hp
  obtain ⟨wA, hwA⟩ : ∃ wA, wA = w.alloc (.cells #[sv, ev] 25) := ⟨_, rfl⟩
  have hE0 : Ext w wA := by rw [hwA]; exact Ext.alloc _ _
  have hz1 : BoxP wA w.heap.size sv ev := by rw [hwA]; exact BoxP.new w _ _ rfl
  have hb0 := hz1.c0
  have hb1 := hz1.c1
  have HL := Lib.hid (long_c sv ev sizes es wA (hp.ext hE0))
  have HW := Lib.hid hwA; clear hwA hz1 hp
  cases hl : longB sizes es
  · rw [hl] at HL
    clear hl
    have HSW := Lib.hid (fun W (h : Ext w W) => Swap_c sv ev sizes es i j W (HP.out.ext h))
    have HRS := Lib.hid (fun W (h : Ext w W) => rSwap_c sv ev sizes es i j W (HP.out.ext h))
    have HFI := Lib.hid (fun W (h : Ext w W) => Fill_c sv ev sizes es W (HP.out.ext h))
    have HZ : nK sizes es i j = 0 → ValidP sizes es ∧ ValidP sizes (swE sizes es i j) ∧ swS sizes es i j = sizes ∧ fillL sizes (swE sizes es i j) = fillL sizes es := fun h => by
      obtain ⟨V, a, b, rfl, rfl, ha, hb⟩ := nK_zero h
      rw [swE, if_pos h, swS, if_pos h]
      exact ⟨V, swap_valid V ha hb, rfl, swap_fill ha hb⟩
    replace HZ := Lib.hid HZ
    generalize nK sizes es i j = k at *
    generalize swS sizes es i j = S at *
    generalize swE sizes es i j = E at *
    go_enter Try.func6, Try.ntmps6
    go_wp2_with fail
    rw [← HW.out]
    refine HL.out.mono ?_; rintro e w1 ⟨rfl, hB1⟩
    have hb0 := hB1.keep hb0
    have hb1 := hB1.keep hb1
    have hX1 := hE0.trans hB1
    go_wp2_with fail
    refine (HSW.out w1 hX1).mono ?_; rintro e w2 ⟨s2, e2, rfl, hov, hoe, hx2⟩
    obtain ⟨a2, c2, rfl, _⟩ := hov.ints.open_
    obtain ⟨a3, c3, rfl, _⟩ := hoe.ents.open_
    have HQ1 := Lib.hid (show Par w2 _ _ _ _ from ⟨hov.ints, hoe.ents⟩)
    clear hov hoe
    have hA5 := Ext.alloc w2 (.cells #[.slice a2 S.length c2, .slice a3 E.length c3] 25)
    have hbx := BoxP.new w2 (.slice a2 S.length c2) (.slice a3 E.length c3) rfl
    have hy3 := hx2.trans hA5
    have hb0 := hy3.keep hb0
    have hb1 := hy3.keep hb1
    have hX3 := hX1.trans hy3
    go_wp2_with fail
    refine (HRS.out _ hX3).mono ?_; rintro e w4 ⟨s4, e4, rfl, hov, hoe, hx4⟩
    obtain ⟨a4, c4, rfl, _⟩ := hov.ints.open_
    obtain ⟨a5, c5, rfl, _⟩ := hoe.ents.open_
    have HQ2 := Lib.hid (show Par w4 _ _ _ _ from ⟨hov.ints, hoe.ents⟩)
    clear hov hoe
    have hA6 := Ext.alloc w4 (.cells #[.slice a4 S.length c4, .slice a5 E.length c5] 25)
    have hbx := hbx.ext (hx4.trans hA6)
    have hbz := BoxP.new w4 (.slice a4 S.length c4) (.slice a5 E.length c5) rfl
    have hy5 := hx4.trans hA6
    have hb0 := hy5.keep hb0
    have hb1 := hy5.keep hb1
    have hX5 := hX3.trans hy5
    have m0 := hbx.c0
    have m1 := hbx.c1
    have z0 := hbz.c0
    have z1 := hbz.c1
    have HEQ := Lib.hid (Equal_c _ _ _ _ _ _ _ _ _ (HQ1.out.ext (hA5.trans hy5)) (HQ2.out.ext hA6))
    rw [eqP_refl] at HEQ
    go_wp2_with fail
    refine HEQ.out.mono ?_; rintro e w6 ⟨rfl, hx6⟩
    have hb0 := hx6.keep hb0
    have hb1 := hx6.keep hb1
    have m0 := hx6.keep m0
    have m1 := hx6.keep m1
    have hX6 := hX5.trans hx6
    have HQ6 := Lib.hid (HQ1.out.ext ((hA5.trans hy5).trans hx6))
    clear z0 z1 hbx hbz hA5 hA6 hy3 hy5 hx6 hX5 hX3 hX1
    go_wp2_with fail
    refine (HFI.out w6 hX6).mono ?_; rintro e w8 ⟨v8, rfl, hr8, hx8⟩
    have m0 := hx8.keep m0
    have m1 := hx8.keep m1
    have hX8 := hX6.trans hx8
    have HR8 := Lib.hid hr8; clear hr8
    go_wp2_with fail
    refine (Fill_c _ _ _ _ w8 (HQ6.out.ext hx8)).mono ?_; rintro e w9 ⟨v9, rfl, hr9, hx9⟩
    have hX9 := hX8.trans hx9
    have HR9 := Lib.hid hr9; clear hr9
    by_cases hk0 : k = 0
    · subst hk0
      obtain ⟨V, V2, hS, hF⟩ := HZ.out rfl
      rw [hS, validI_of V, validI_of V2]
      rw [hS, validI_of V2, if_pos rfl, hF] at HR9
      rw [validI_of V, if_pos rfl] at HR8
      have HSI := Lib.hid (sameInts_c v8 v9 _ _ w9 (Ints.ext HR8.out hx9) HR9.out)
      rw [sameIntsB_refl] at HSI
      clear V V2 hS hF m0 m1
      go_wp2_with fail
      refine HSI.out.mono ?_; rintro e w10 ⟨rfl, n10, hw10⟩
      have hx10 : Ext w9 w10 := by rw [hw10]; exact Ext.drewN _ _
      clear hw10
      go_wp2_with fail
      refine (known_c _).mono ?_; rintro e w11 ⟨rfl, hx11⟩
      go_wp2_with fail
      go_ret
      exact RV.bool rfl ((hX9.trans hx10).trans hx11)
    · have hkn : (k != 0) = true := by simp [hk0]
      have hkk : (k != k) = false := by simp
      clear hk0
      go_wp2_with fail
      refine (known_c _).mono ?_; rintro e w10 ⟨rfl, hx10⟩
      go_wp2_with fail
      go_ret
      exact RV.bool rfl (hX9.trans hx10)
  · rw [hl] at HL
    clear hl
    go_enter Try.func6, Try.ntmps6
    go_wp2_with fail
    rw [← HW.out]
    refine HL.out.mono ?_; rintro e w1 ⟨rfl, hB1⟩
    have hX1 := hE0.trans hB1
    go_wp2_with fail
    refine (known_c _).mono ?_; rintro e w2 ⟨rfl, hB2⟩
    go_wp2_with fail
    go_ret
    exact RV.bool rfl (hX1.trans hB2)
end Go.Proofs.Ytoepnpjjmfhnnaa
