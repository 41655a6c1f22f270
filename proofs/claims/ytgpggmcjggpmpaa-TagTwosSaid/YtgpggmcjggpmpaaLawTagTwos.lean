/- TagTwos: for every input the call returns true. No condition. -/
import Derived.Test.YtgpggmcjggpmpaaTagY
namespace Go.Proofs.Ytgpggmcjggpmpaa
open Go.RowKit Go.Shelf
set_option linter.unusedVariables false

set_option maxHeartbeats 4000000 in
set_option maxRecDepth 100000 in
theorem tagTwos_c (iv fv : Value) (l : Lex) (av : Value) (a : List Int) (bv : Value) (b : List Int) (w : World) (h : LexR w iv fv l) (ha : Ints w av a) (hb : Ints w bv b) :
    Calls Try.prog 4 #[.agg #[iv, fv], av, bv] w (RV (.bool true) w) := by
  obtain ⟨wA, hwA⟩ : ∃ wA, wA = w.alloc (.cells #[iv, fv] 25) := ⟨_, rfl⟩
  have hE0 : Ext w wA := by rw [hwA]; exact Ext.alloc _ _
  have k0 : ∀ W, Ext wA W → W.cell? ⟨w.heap.size, 0, none⟩ = some iv := by rw [hwA]; exact kept_alloc w _ _ rfl
  have k1 : ∀ W, Ext wA W → W.cell? ⟨w.heap.size, 1, none⟩ = some fv := by rw [hwA]; exact kept_alloc w _ _ rfl
  have H0 : Ext wA wA := Ext.refl _
  have HR := Lib.hid (h.ext hE0)
  obtain ⟨ai, ci, rfl, hli, hmi, HI⟩ := (h.ext hE0).i.open_
  obtain ⟨af, cf, rfl, hlf, hmf, HF⟩ := Rows.open_ (h.ext hE0).f
  have HI_a := Lib.hid (ha.ext hE0)
  obtain ⟨a_a, c_a, rfl, hl_a, hm_a, HU_a⟩ := (ha.ext hE0).open_
  have HI_b := Lib.hid (hb.ext hE0)
  obtain ⟨a_b, c_b, rfl, hl_b, hm_b, HU_b⟩ := (hb.ext hE0).open_
  have hxL := Ext.alloc wA (.cells #[.slice a_a a.length c_a, .slice a_b b.length c_b] 26)
  have HLG := Lib.hid (by have := Long_c _ _ _ l [a, b] _ (HR.out.ext hxL) (rows_new wA [.slice a_a a.length c_a, .slice a_b b.length c_b] [a, b] (AllInts.cons HI_a.out (AllInts.cons HI_b.out (AllInts.nil _))) (by simp)); rw [show wA.heap.size = w.heap.size + 1 by rw [hwA]; simp] at this; exact this)
  have HW := Lib.hid hwA; clear hwA h ha hb
  have HLB := Lib.hid (longX_lists (l := l) (ls := [a, b]))
  have HLF := Lib.hid (longX_fol (l := l) (ls := [a, b]))
  generalize longX l [a, b] = b1 at *
  cases b1
  · have HLB2 := HLB.out rfl
    have HLF2 := Lib.hid (HLF.out rfl)
    clear HLB HLF
    have hl3_a : a.length ≤ 300 := HLB2 a (by simp)
    have hl3_b : b.length ≤ 300 := HLB2 b (by simp)
    clear HLB2
    go_enter Try.func4, Try.ntmps4
    go_wp2_with fail
    rw [← HW.out]
    refine HLG.out.mono ?_; rintro e w2 ⟨rfl, hx2⟩
    have hX := hxL.trans hx2
    clear hx2 hxL
    clear HLG
    go_wp2_with fail
    refine (CheckTwo_c _ _ _ _ l a b w2 (HR.out.ext hX) (HI_a.out.ext hX) (HI_b.out.ext hX)).mono ?_; rintro e w3 ⟨rfl, hx3⟩
    have hX3 := hX.trans hx3
    go_wp2_with fail
    refine (rCheckTwo_c _ _ _ _ l a b w3 (HR.out.ext hX3) (HI_a.out.ext hX3) (HI_b.out.ext hX3)).mono ?_; rintro e w4 ⟨rfl, hx4⟩
    have hX4 := hX3.trans hx4
    have HT := Lib.hid (twoK_not (l := l) (a := a) (b := b))
    have HC := Lib.hid (IsCode_c _ _ l w4 (HR.out.ext hX4))
    generalize hk : twoK l a b = k at *
    by_cases h0 : k = 0
    · obtain ⟨hn, hv⟩ := HT.out h0
      rw [isC_ok hv, codeB_no hn, hv] at HC
      have hd : (k != 0) = false := by simp [h0]
      have hd2 : (k != k) = false := by simp
      clear hn hv HT hk
      have H0 := Lib.hid h0; clear h0
      go_wp2_with fail
      refine HC.out.mono ?_; rintro e w5 ⟨rfl, hx5⟩
      have hX5 := hX4.trans hx5
      go_wp2_with fail
      refine (sane_c _).mono ?_; rintro e wK ⟨rfl, hxK⟩
      go_wp2_with fail
      go_ret
      exact RV.bool rfl (hE0.trans (hX5.trans hxK))
    · have hd : (k != 0) = true := by simpa using h0
      have hd2 : (k != k) = false := by simp
      clear HT hk h0
      go_wp2_with fail
      refine HC.out.mono ?_; rintro e w5 ⟨rfl, hx5⟩
      have hX5 := hX4.trans hx5
      go_wp2_with fail
      refine (sane_c _).mono ?_; rintro e wK ⟨rfl, hxK⟩
      go_wp2_with fail
      go_ret
      exact RV.bool rfl (hE0.trans (hX5.trans hxK))
  · go_enter Try.func4, Try.ntmps4
    go_wp2_with fail
    rw [← HW.out]
    refine HLG.out.mono ?_; rintro e w2 ⟨rfl, hx2⟩
    have hX := hxL.trans hx2
    clear hx2 hxL
    go_wp2_with fail
    refine (sane_c _).mono ?_; rintro e wK ⟨rfl, hxK⟩
    go_wp2_with fail
    go_ret
    exact RV.bool rfl (hE0.trans (hX.trans hxK))
end Go.Proofs.Ytgpggmcjggpmpaa
