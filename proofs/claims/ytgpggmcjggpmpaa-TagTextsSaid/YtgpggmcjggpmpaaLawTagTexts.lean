/- TagTexts: for every input the call returns true. No condition. -/
import Derived.Test.YtgpggmcjggpmpaaTagY
namespace Go.Proofs.Ytgpggmcjggpmpaa
open Go.RowKit Go.Shelf
set_option linter.unusedVariables false
theorem words_snd {l : Lex} (h : LexOk l) {s : List Int} (hs : allIn l s) : ∀ x ∈ wordsL l s, 0 ≤ x ∧ x ≤ 5 := by
  intro x hx
  obtain ⟨a, ha, hxa⟩ := List.mem_flatMap.1 hx
  have := hs a ha
  exact h.so a.toNat (by have h1 := this.1; have h2 := this.2; omega) x hxa
theorem text_split {l : Lex} {s : List Int} (h : textE l s = 0) : splitK l (textL l s) s = 0 ∨ splitK l (textL l s) s = 6 := by
  have hL : textL l s = wordsL l s := by unfold textL; rw [if_pos h]
  have hv : validL l = 0 := by
    by_cases hv : validL l = 0
    · exact hv
    · unfold textE at h; rw [if_neg hv] at h; exact h
  have hl := validL_ok hv
  unfold textE at h
  rw [if_pos hv] at h
  by_cases h1 : areB l s = true
  · rw [if_pos h1] at h
    by_cases h2 : 12 < ((wordsL l s).length : Int)
    · rw [if_pos h2] at h; cases h
    · have ha := areB_iff.1 h1
      have h0 : textK l (wordsL l s) = 0 := by rw [textK_valid hv, if_neg h2, sndB_iff.2 (words_snd hl ha)]; rfl
      have h3 := words_len hl.noE ha
      rw [hL, splitK_e (b := lnkB l s) h0 (by omega) h1 rfl rfl]
      cases lnkB l s
      · exact .inr rfl
      · exact .inl rfl
  · rw [if_neg h1] at h; cases h

set_option maxHeartbeats 4000000 in
set_option maxRecDepth 100000 in
theorem tagTexts_c (iv fv : Value) (l : Lex) (splitv : Value) (split : List Int) (w : World) (h : LexR w iv fv l) (hsplit : Ints w splitv split) :
    Calls Try.prog 14 #[.agg #[iv, fv], splitv] w (RV (.bool true) w) := by
  obtain ⟨wA, hwA⟩ : ∃ wA, wA = w.alloc (.cells #[iv, fv] 25) := ⟨_, rfl⟩
  have hE0 : Ext w wA := by rw [hwA]; exact Ext.alloc _ _
  have k0 : ∀ W, Ext wA W → W.cell? ⟨w.heap.size, 0, none⟩ = some iv := by rw [hwA]; exact kept_alloc w _ _ rfl
  have k1 : ∀ W, Ext wA W → W.cell? ⟨w.heap.size, 1, none⟩ = some fv := by rw [hwA]; exact kept_alloc w _ _ rfl
  have H0 : Ext wA wA := Ext.refl _
  have HR := Lib.hid (h.ext hE0)
  obtain ⟨ai, ci, rfl, hli, hmi, HI⟩ := (h.ext hE0).i.open_
  obtain ⟨af, cf, rfl, hlf, hmf, HF⟩ := Rows.open_ (h.ext hE0).f
  have HI_split := Lib.hid (hsplit.ext hE0)
  obtain ⟨a_split, c_split, rfl, hl_split, hm_split, HU_split⟩ := (hsplit.ext hE0).open_
  have hxL := Ext.alloc wA (.cells #[.slice a_split split.length c_split] 26)
  have HLG := Lib.hid (by have := Long_c _ _ _ l [split] _ (HR.out.ext hxL) (rows_new wA [.slice a_split split.length c_split] [split] (AllInts.cons HI_split.out (AllInts.nil _)) (by simp)); rw [show wA.heap.size = w.heap.size + 1 by rw [hwA]; simp] at this; exact this)
  have HW := Lib.hid hwA; clear hwA h hsplit
  have HLB := Lib.hid (longX_lists (l := l) (ls := [split]))
  have HLF := Lib.hid (longX_fol (l := l) (ls := [split]))
  generalize longX l [split] = b1 at *
  cases b1
  · have HLB2 := HLB.out rfl
    have HLF2 := Lib.hid (HLF.out rfl)
    clear HLB HLF
    have hl3_split : split.length ≤ 300 := HLB2 split (by simp)
    clear HLB2
    go_enter Try.func14, Try.ntmps14
    go_wp2_with fail
    rw [← HW.out]
    refine HLG.out.mono ?_; rintro e w2 ⟨rfl, hx2⟩
    have hX := hxL.trans hx2
    clear hx2 hxL
    clear HLG
    go_wp2_with fail
    have HTE := Lib.hid (text_split (l := l) (s := split))
    refine (Text_c _ _ _ l split w2 (HR.out.ext hX) (HI_split.out.ext hX) (by omega)).mono ?_; rintro e w3 ⟨v3, rfl, hv3, hx3⟩
    have hX3 := hX.trans hx3
    have HV3 : Hid (Ints w3 v3 (textL l split)) := Lib.hid hv3; clear hv3
    go_wp2_with fail
    refine (rText_c _ _ _ l split w3 (HR.out.ext hX3) (HI_split.out.ext hX3) (by omega)).mono ?_; rintro e w4 ⟨v4, rfl, hv4, hx4⟩
    have hX4 := hX3.trans hx4
    have HSI := Lib.hid (same_v v3 v4 _ _ w4 (HV3.out.ext hx4) hv4)
    rw [decide_eq_true rfl] at HSI
    clear hv4
    have HSC := Lib.hid (fun W (hW : Ext w4 W) => CheckSplit_c _ _ _ _ l (textL l split) split W (HR.out.ext (hX4.trans hW)) (HV3.out.ext (hx4.trans hW)) (HI_split.out.ext (hX4.trans hW)))
    generalize splitK l (textL l split) split = q at *
    generalize splitC l (textL l split) split = c at *
    generalize textE l split = k at *
    have hd2 : (k != k) = false := by simp
    by_cases hk : k = 0
    · have hd3 : (k != 0) = false := by simp [hk]
      have hq := HTE.out hk
      clear HTE hk
      rcases hq with hq | hq
      · subst hq
        go_wp2_with fail
        refine HSI.out.mono ?_; rintro e w5 ⟨rfl, hx5⟩
        have hX5 := hX4.trans hx5
        go_wp2_with fail
        refine (HSC.out w5 hx5).mono ?_; rintro e w6 ⟨rfl, hx6⟩
        have hX6 := hX5.trans hx6
        go_wp2_with fail
        refine (sane_c _).mono ?_; rintro e wK ⟨rfl, hxK⟩
        go_wp2_with fail
        go_ret
        exact RV.bool rfl (hE0.trans (hX6.trans hxK))
      · subst hq
        go_wp2_with fail
        refine HSI.out.mono ?_; rintro e w5 ⟨rfl, hx5⟩
        have hX5 := hX4.trans hx5
        go_wp2_with fail
        refine (HSC.out w5 hx5).mono ?_; rintro e w6 ⟨rfl, hx6⟩
        have hX6 := hX5.trans hx6
        go_wp2_with fail
        refine (sane_c _).mono ?_; rintro e wK ⟨rfl, hxK⟩
        go_wp2_with fail
        go_ret
        exact RV.bool rfl (hE0.trans (hX6.trans hxK))
    · have hd3 : (k != 0) = true := by simpa using hk
      clear HTE hk
      go_wp2_with fail
      refine HSI.out.mono ?_; rintro e w5 ⟨rfl, hx5⟩
      have hX5 := hX4.trans hx5
      go_wp2_with fail
      refine (sane_c _).mono ?_; rintro e wK ⟨rfl, hxK⟩
      go_wp2_with fail
      go_ret
      exact RV.bool rfl (hE0.trans (hX5.trans hxK))
  · go_enter Try.func14, Try.ntmps14
    go_wp2_with fail
    rw [← HW.out]
    refine HLG.out.mono ?_; rintro e w2 ⟨rfl, hx2⟩
    have hX := hxL.trans hx2
    clear hx2 hxL
    go_wp2_with fail
    refine (sane_c _).mono ?_; rintro e wK ⟨rfl, hxK⟩
    go_wp2_with fail
    go_ret
    exact RV.bool rfl (hE0.trans (hX.trans hxK))
end Go.Proofs.Ytgpggmcjggpmpaa
