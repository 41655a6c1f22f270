/- TagOnce: for every input the call returns true. No condition. -/
import Derived.Test.YtgpggmcjggpmpaaTagY
namespace Go.Proofs.Ytgpggmcjggpmpaa
open Go.RowKit Go.Shelf
set_option linter.unusedVariables false

set_option maxHeartbeats 4000000 in
set_option maxRecDepth 100000 in
theorem tagOnce_c (iv fv : Value) (l : Lex) (textv : Value) (text : List Int) (w : World) (h : LexR w iv fv l) (htext : Ints w textv text) :
    Calls Try.prog 5 #[.agg #[iv, fv], textv] w (RV (.bool true) w) := by
  obtain ⟨wA, hwA⟩ : ∃ wA, wA = w.alloc (.cells #[iv, fv] 25) := ⟨_, rfl⟩
  have hE0 : Ext w wA := by rw [hwA]; exact Ext.alloc _ _
  have k0 : ∀ W, Ext wA W → W.cell? ⟨w.heap.size, 0, none⟩ = some iv := by rw [hwA]; exact kept_alloc w _ _ rfl
  have k1 : ∀ W, Ext wA W → W.cell? ⟨w.heap.size, 1, none⟩ = some fv := by rw [hwA]; exact kept_alloc w _ _ rfl
  have H0 : Ext wA wA := Ext.refl _
  have HR := Lib.hid (h.ext hE0)
  obtain ⟨ai, ci, rfl, hli, hmi, HI⟩ := (h.ext hE0).i.open_
  obtain ⟨af, cf, rfl, hlf, hmf, HF⟩ := Rows.open_ (h.ext hE0).f
  have HI_text := Lib.hid (htext.ext hE0)
  obtain ⟨a_text, c_text, rfl, hl_text, hm_text, HU_text⟩ := (htext.ext hE0).open_
  have hxL := Ext.alloc wA (.cells #[.slice a_text text.length c_text] 26)
  have HLG := Lib.hid (by have := Long_c _ _ _ l [text] _ (HR.out.ext hxL) (rows_new wA [.slice a_text text.length c_text] [text] (AllInts.cons HI_text.out (AllInts.nil _)) (by simp)); rw [show wA.heap.size = w.heap.size + 1 by rw [hwA]; simp] at this; exact this)
  have HW := Lib.hid hwA; clear hwA h htext
  have HLB := Lib.hid (longX_lists (l := l) (ls := [text]))
  have HLF := Lib.hid (longX_fol (l := l) (ls := [text]))
  generalize longX l [text] = b1 at *
  cases b1
  · have HLB2 := HLB.out rfl
    have HLF2 := Lib.hid (HLF.out rfl)
    clear HLB HLF
    have hl3_text : text.length ≤ 300 := HLB2 text (by simp)
    clear HLB2
    go_enter Try.func5, Try.ntmps5
    go_wp2_with fail
    rw [← HW.out]
    refine HLG.out.mono ?_; rintro e w2 ⟨rfl, hx2⟩
    have hX := hxL.trans hx2
    clear hx2 hxL
    clear HLG
    go_wp2_with fail
    have HCN : Hid (countN l text = if textK l text = 0 then cntR l text (-1) else 0) := Lib.hid rfl
    have HON := Lib.hid (fun h hc => code_once (l := l) h hc text)
    have HTO := Lib.hid (fun h => textK_ok (l := l) (t := text) h)
    refine (IsCode_c _ _ l w2 (HR.out.ext hX)).mono ?_; rintro e w3 ⟨rfl, hx3⟩
    have hX3 := hX.trans hx3
    go_wp2_with fail
    refine (Count_c _ _ _ l text w3 (HR.out.ext hX3) (HI_text.out.ext hX3)).mono ?_; rintro e w4 ⟨rfl, hx4⟩
    have hX4 := hX3.trans hx4
    have HLE : Hid (textK l text = 0 → isC l = true → countN l text ≤ 1) := Lib.hid (fun h1 h2 => by
      have hl := (HTO.out h1).1
      rw [isC_ok (ok_validL hl), codeB_iff] at h2
      rw [HCN.out, if_pos h1]
      exact HON.out hl h2)
    clear HON HTO HCN
    generalize isC l = b at *
    generalize countN l text = n at *
    generalize textK l text = k at *
    generalize validL l = j at *
    by_cases hj : j = 0
    · have hd1 : (j != 0) = false := by simp [hj]
      by_cases hk : k = 0
      · have hd2 : (k != 0) = false := by simp [hk]
        have HKK := Lib.hid hk
        clear hj hk
        cases b
        · go_wp2_with fail
          refine (sane_c _).mono ?_; rintro e wK ⟨rfl, hxK⟩
          go_wp2_with fail
          go_ret
          exact RV.bool rfl (hE0.trans (hX4.trans hxK))
        · have hn : n ≤ 1 := HLE.out HKK.out rfl
          have hd3 : decide (n ≤ 1) = true := decide_eq_true hn
          go_wp2_with fail
          refine (sane_c _).mono ?_; rintro e wK ⟨rfl, hxK⟩
          go_wp2_with fail
          go_ret
          exact RV.bool rfl (hE0.trans (hX4.trans hxK))
      · have hd2 : (k != 0) = true := by simpa using hk
        clear hj hk
        go_wp2_with fail
        refine (sane_c _).mono ?_; rintro e wK ⟨rfl, hxK⟩
        go_wp2_with fail
        go_ret
        exact RV.bool rfl (hE0.trans (hX4.trans hxK))
    · have hd1 : (j != 0) = true := by simpa using hj
      clear hj
      go_wp2_with fail
      refine (sane_c _).mono ?_; rintro e wK ⟨rfl, hxK⟩
      go_wp2_with fail
      go_ret
      exact RV.bool rfl (hE0.trans (hX4.trans hxK))
  · go_enter Try.func5, Try.ntmps5
    go_wp2_with fail
    rw [← HW.out]
    refine HLG.out.mono ?_; rintro e w2 ⟨rfl, hx2⟩
    have hX := hxL.trans hx2
    clear hx2 hxL
    go_wp2_with fail
    refine (sane_c _).mono ?_; rintro e wK ⟨rfl, hxK⟩
    go_wp2_with fail
    go_ret
    exact RV.bool rfl (hE0.trans (hX.trans hxK))
end Go.Proofs.Ytgpggmcjggpmpaa
