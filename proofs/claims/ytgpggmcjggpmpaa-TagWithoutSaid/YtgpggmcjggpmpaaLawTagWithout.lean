/- TagWithout: for every input the call returns true. No condition. -/
import Derived.Test.YtgpggmcjggpmpaaTagY
import Derived.Test.YtgpggmcjggpmpaaTagWi
import Derived.Test.YtgpggmcjggpmpaaTagSe
import Derived.Test.YtgpggmcjggpmpaaTagG
namespace Go.Proofs.Ytgpggmcjggpmpaa
open Go.RowKit Go.Shelf
set_option linter.unusedVariables false
theorem without_law {l : Lex} {n : Int} {t : List Int} (h1 : withoutK l n = 0) : textK l t = textK (withoutL l n) t ∧ countN (withoutL l n) t ≤ countN l t ∧ validL l = 0 ∧ validL (withoutL l n) = 0 ∧ (isC l = true → isC (withoutL l n) = true) := by
  have e : withoutL l n = withoutX l n.toNat := by unfold withoutL; rw [if_pos h1]
  have hi : itemK l n = 0 := by
    by_cases hi : itemK l n = 0
    · exact hi
    · unfold withoutK at h1; rw [if_neg hi] at h1; exact absurd h1 hi
  obtain ⟨hl, j, hj, hjl⟩ := item_ok hi
  unfold withoutK at h1
  rw [if_pos hi] at h1
  have hn1 : l.n ≠ 1 := by
    intro hc
    have : l.i.length = 1 := hc
    rw [if_pos this] at h1; cases h1
  have hnj : n.toNat = j := by omega
  rw [e, hnj]
  have hok := without_ok hl hjl hn1
  have hv := ok_validL hl
  have hv2 := ok_validL hok
  have ht : textK (withoutX l j) t = textK l t := by rw [textK_valid hv2, textK_valid hv]
  refine ⟨ht.symm, ?_, hv, hv2, fun hc => ?_⟩
  · unfold countN
    rw [ht]
    split
    · exact without_cnt hl hjl hn1 t
    · omega
  · rw [isC_ok hv, codeB_iff] at hc
    rw [isC_ok hv2, codeB_iff]
    exact fun h => hc (without_code hjl h)

set_option maxHeartbeats 4000000 in
set_option maxRecDepth 100000 in
theorem tagWithout_c (iv fv : Value) (l : Lex) (item : Int) (textv : Value) (text : List Int) (w : World) (h : LexR w iv fv l) (_ : (Lit.int .i64 item).wf = true) (htext : Ints w textv text) :
    Calls Try.prog 16 #[.agg #[iv, fv], .int .i64 item, textv] w (RV (.bool true) w) := by
  obtain ⟨wA, hwA⟩ : ∃ wA, wA = w.alloc (.cells #[iv, fv] 25) := ⟨_, rfl⟩
  have hE0 : Ext w wA := by rw [hwA]; exact Ext.alloc _ _
  have k0 : ∀ W, Ext wA W → W.cell? ⟨w.heap.size, 0, none⟩ = some iv := by rw [hwA]; exact kept_alloc w _ _ rfl
  have k1 : ∀ W, Ext wA W → W.cell? ⟨w.heap.size, 1, none⟩ = some fv := by rw [hwA]; exact kept_alloc w _ _ rfl
  have H0 : Ext wA wA := Ext.refl _
  have HR := Lib.hid (h.ext hE0)
  obtain ⟨ai, ci, rfl, hli, hmi, HI⟩ := (h.ext hE0).i.open_
  obtain ⟨af, cf, rfl, hlf, hmf, HF⟩ := Rows.open_ (h.ext hE0).f
  have HI_text := Lib.hid (htext.ext hE0)
  obtain ⟨a_text, c_text, rfl, hl_text, hm_text, HU_text⟩ := (htext.ext hE0).open_
  have hxL := Ext.alloc wA (.cells #[.slice a_text text.length c_text] 26)
  have HLG := Lib.hid (by have := Long_c _ _ _ l [text] _ (HR.out.ext hxL) (rows_new wA [.slice a_text text.length c_text] [text] (AllInts.cons HI_text.out (AllInts.nil _)) (by simp)); rw [show wA.heap.size = w.heap.size + 1 by rw [hwA]; simp] at this; exact this)
  have HW := Lib.hid hwA; clear hwA h htext
  have HLB := Lib.hid (longX_lists (l := l) (ls := [text]))
  have HLF := Lib.hid (longX_fol (l := l) (ls := [text]))
  generalize longX l [text] = b1 at *
  cases b1
  · have HLB2 := HLB.out rfl
    have HLF2 := Lib.hid (HLF.out rfl)
    clear HLB HLF
    have hl3_text : text.length ≤ 300 := HLB2 text (by simp)
    clear HLB2
    go_enter Try.func16, Try.ntmps16
    go_wp2_with fail
    rw [← HW.out]
    refine HLG.out.mono ?_; rintro e w2 ⟨rfl, hx2⟩
    have hX := hxL.trans hx2
    clear hx2 hxL
    clear HLG
    go_wp2_with fail
    have HFA := Lib.hid (fun W (hW : Ext wA W) => Without_c _ _ l item W (HR.out.ext hW))
    have HFB := Lib.hid (fun W (hW : Ext wA W) => rWithout_c _ _ l item W (HR.out.ext hW))
    have HPL := Lib.hid (fun h1 => without_law (l := l) (n := item) (t := text) h1)
    have HLA := Lib.hid (fun W (hW : Ext wA W) => Count_c _ _ _ l text W (HR.out.ext hW) (HI_text.out.ext hW))
    have HIA := Lib.hid (fun W (hW : Ext wA W) => IsCode_c _ _ l W (HR.out.ext hW))
    refine (HFA.out w2 hX).mono ?_; rintro e w3 ⟨iv3, fv3, rfl, ho3, hx3⟩
    have hX3 := hX.trans hx3
    have HL3 := Lib.hid ho3
    obtain ⟨a3, c3, rfl, _, _, _⟩ := ho3.i.open_
    obtain ⟨b3, d3, rfl, _, _, _⟩ := Rows.open_ ho3.f
    have hA3 := Ext.alloc w3 (.cells #[.slice a3 (withoutL l item).i.length c3, .slice b3 (withoutL l item).f.length d3] 25)
    have f0 : ∀ W, Ext (w3.alloc (.cells #[.slice a3 (withoutL l item).i.length c3, .slice b3 (withoutL l item).f.length d3] 25)) W → W.cell? ⟨w3.heap.size, 0, none⟩ = some (.slice a3 (withoutL l item).i.length c3) := kept_alloc w3 _ _ rfl
    have f1 : ∀ W, Ext (w3.alloc (.cells #[.slice a3 (withoutL l item).i.length c3, .slice b3 (withoutL l item).f.length d3] 25)) W → W.cell? ⟨w3.heap.size, 1, none⟩ = some (.slice b3 (withoutL l item).f.length d3) := kept_alloc w3 _ _ rfl
    have HL4 := Lib.hid (HL3.out.ext hA3)
    have hX4 := hX3.trans hA3
    have hX4r := hX3.trans hA3
    have hA3r := hA3
    obtain ⟨W4, hW4⟩ : ∃ W4, W4 = w3.alloc (.cells #[.slice a3 (withoutL l item).i.length c3, .slice b3 (withoutL l item).f.length d3] 25) := ⟨_, rfl⟩
    rw [← hW4] at f0 f1 HL4 hX4 hA3
    have HW4 := Lib.hid hW4; clear hW4 ho3
    have HLB := Lib.hid (fun W (hW : Ext W4 W) => Count_c _ _ _ (withoutL l item) text W (HL4.out.ext hW) (HI_text.out.ext (hX4.trans hW)))
    have HIB := Lib.hid (fun W (hW : Ext W4 W) => IsCode_c _ _ (withoutL l item) W (HL4.out.ext hW))
    go_wp2_with fail
    rw [← HW4.out]
    clear hX4r hA3r
    refine (HFB.out W4 hX4).mono ?_; rintro e w5 ⟨iv5, fv5, rfl, ho5, hx5⟩
    have HL5 := Lib.hid ho5
    obtain ⟨a5, c5, rfl, _, _, _⟩ := ho5.i.open_
    obtain ⟨b5, d5, rfl, _, _, _⟩ := Rows.open_ ho5.f
    clear ho5
    have hA5 := Ext.alloc w5 (.cells #[.slice a5 (withoutL l item).i.length c5, .slice b5 (withoutL l item).f.length d5] 25)
    have g0 : ∀ W, Ext (w5.alloc (.cells #[.slice a5 (withoutL l item).i.length c5, .slice b5 (withoutL l item).f.length d5] 25)) W → W.cell? ⟨w5.heap.size, 0, none⟩ = some (.slice a5 (withoutL l item).i.length c5) := kept_alloc w5 _ _ rfl
    have g1 : ∀ W, Ext (w5.alloc (.cells #[.slice a5 (withoutL l item).i.length c5, .slice b5 (withoutL l item).f.length d5] 25)) W → W.cell? ⟨w5.heap.size, 1, none⟩ = some (.slice b5 (withoutL l item).f.length d5) := kept_alloc w5 _ _ rfl
    have HL6 := Lib.hid (HL5.out.ext hA5)
    have hX46 := hx5.trans hA5
    have hX6 := hX4.trans hX46
    have hX46r := hX46
    have hX6r := hX6
    have H66r := Ext.refl (w5.alloc (.cells #[.slice a5 (withoutL l item).i.length c5, .slice b5 (withoutL l item).f.length d5] 25))
    obtain ⟨W6, hW6⟩ : ∃ W6, W6 = w5.alloc (.cells #[.slice a5 (withoutL l item).i.length c5, .slice b5 (withoutL l item).f.length d5] 25) := ⟨_, rfl⟩
    rw [← hW6] at g0 g1 HL6 hX6 hX46
    have HW6 := Lib.hid hW6; clear hW6 hA5
    have HSM := Lib.hid (same_c _ _ _ _ (withoutL l item) W6 (HL4.out.ext hX46) HL6.out)
    have H66 := Ext.refl W6
    generalize withoutK l item = k at *
    have hkk : (k != k) = false := by simp
    generalize countN (withoutL l item) text = n2 at *
    generalize countN l text = n1 at *
    generalize isC (withoutL l item) = c2 at *
    generalize isC l = c1 at *
    generalize textK (withoutL l item) text = t2 at *
    generalize textK l text = t1 at *
    generalize validL (withoutL l item) = v2 at *
    generalize validL l = v1 at *
    generalize hnL : (withoutL l item).i.length = nL at *
    generalize hnF : (withoutL l item).f.length = nF at *
    have HnL := Lib.hid hnL; have HnF := Lib.hid hnF
    clear hnL hnF
    by_cases hk : k = 0
    · have hd : (k != 0) = false := by simp [hk]
      obtain ⟨e1, e2, e3, e4, e5⟩ := HPL.out hk
      have hd1 : (t1 == t2) = true := by simp [e1]
      have hd2 : decide (n2 ≤ n1) = true := decide_eq_true e2
      have hd3 : (v1 == 0) = true := by simp [e3]
      have hd4 : (v2 == 0) = true := by simp [e4]
      have HE5 := Lib.hid e5
      clear hk e1 e2 e3 e4 e5 HPL
      cases c1 with
      | false =>
        go_wp2_with fail
        rw [← HW6.out]
        clear hX46r H66r hX6r
        refine HSM.out.mono ?_; rintro e w7 ⟨rfl, hx7⟩
        have hX47 := hX46.trans hx7
        have hX7 := hX4.trans hX47
        go_wp2_with fail
        refine (HLA.out w7 hX7).mono ?_; rintro e w8 ⟨rfl, hx8⟩
        have hX48 := hX47.trans hx8
        have hX8 := hX4.trans hX48
        go_wp2_with fail
        refine (HLB.out w8 hX48).mono ?_; rintro e w9 ⟨rfl, hx9⟩
        have hX49 := hX48.trans hx9
        have hX9 := hX4.trans hX49
        go_wp2_with fail
        refine (HIA.out w9 hX9).mono ?_; rintro e w10 ⟨rfl, hx10⟩
        have hX410 := hX49.trans hx10
        have hX10 := hX4.trans hX410
        go_wp2_with fail
        refine (HIB.out w10 hX410).mono ?_; rintro e w11 ⟨rfl, hx11⟩
        have hX11 := hX10.trans hx11
        go_wp2_with fail
        refine (sane_c _).mono ?_; rintro e wK ⟨rfl, hxK⟩
        go_wp2_with fail
        go_ret
        exact RV.bool rfl (hE0.trans (hX11.trans hxK))
      | true =>
        have hc2 := HE5.out rfl
        subst hc2
        go_wp2_with fail
        rw [← HW6.out]
        clear hX46r H66r hX6r
        refine HSM.out.mono ?_; rintro e w7 ⟨rfl, hx7⟩
        have hX47 := hX46.trans hx7
        have hX7 := hX4.trans hX47
        go_wp2_with fail
        refine (HLA.out w7 hX7).mono ?_; rintro e w8 ⟨rfl, hx8⟩
        have hX48 := hX47.trans hx8
        have hX8 := hX4.trans hX48
        go_wp2_with fail
        refine (HLB.out w8 hX48).mono ?_; rintro e w9 ⟨rfl, hx9⟩
        have hX49 := hX48.trans hx9
        have hX9 := hX4.trans hX49
        go_wp2_with fail
        refine (HIA.out w9 hX9).mono ?_; rintro e w10 ⟨rfl, hx10⟩
        have hX410 := hX49.trans hx10
        have hX10 := hX4.trans hX410
        go_wp2_with fail
        refine (HIB.out w10 hX410).mono ?_; rintro e w11 ⟨rfl, hx11⟩
        have hX11 := hX10.trans hx11
        go_wp2_with fail
        refine (sane_c _).mono ?_; rintro e wK ⟨rfl, hxK⟩
        go_wp2_with fail
        go_ret
        exact RV.bool rfl (hE0.trans (hX11.trans hxK))
    · have hd : (k != 0) = true := by simpa using hk
      clear hk
      go_wp2_with fail
      rw [← HW6.out]
      clear hX46r H66r hX6r
      refine HSM.out.mono ?_; rintro e w7 ⟨rfl, hx7⟩
      have hX47 := hX46.trans hx7
      have hX7 := hX4.trans hX47
      go_wp2_with fail
      refine (sane_c _).mono ?_; rintro e wK ⟨rfl, hxK⟩
      go_wp2_with fail
      go_ret
      exact RV.bool rfl (hE0.trans (hX7.trans hxK))
  · go_enter Try.func16, Try.ntmps16
    go_wp2_with fail
    rw [← HW.out]
    refine HLG.out.mono ?_; rintro e w2 ⟨rfl, hx2⟩
    have hX := hxL.trans hx2
    clear hx2 hxL
    go_wp2_with fail
    refine (sane_c _).mono ?_; rintro e wK ⟨rfl, hxK⟩
    go_wp2_with fail
    go_ret
    exact RV.bool rfl (hE0.trans (hX.trans hxK))
end Go.Proofs.Ytgpggmcjggpmpaa
