/- TagLeast: for every input the call returns true. No condition. -/
import Derived.Test.YtgpggmcjggpmpaaTagY
import Derived.Test.YtgpggmcjggpmpaaTagBe
import Derived.Test.YtgpggmcjggpmpaaTagS
import Derived.Test.YtgpggmcjggpmpaaTagG
namespace Go.Proofs.Ytgpggmcjggpmpaa
open Go.RowKit Go.Shelf
set_option linter.unusedVariables false
theorem least_none {l : Lex} {t : List Int} (h : (leastO l t).2 = false) : countN l t = 0 := by
  unfold countN
  split
  · rename_i h0
    rw [leastO_cnt h0] at h
    have h1 := of_decide_eq_false h
    have h2 : (0 : Int) ≤ cntR l t (-1) := by unfold cntR; omega
    omega
  · rfl
theorem least_some {l : Lex} {t : List Int} (h : (leastO l t).2 = true) : textK l t = 0 ∧ 0 < countN l t := by
  by_cases h0 : textK l t = 0
  · refine ⟨h0, ?_⟩
    rw [leastO_cnt h0] at h
    unfold countN; rw [if_pos h0]; exact of_decide_eq_true h
  · unfold leastO at h; rw [if_neg h0] at h; cases h
theorem least_split {l : Lex} {t s : List Int} (hn : 0 < countN l t) (h1 : IsSp l (-1) t s) (h2 : costL l s = (leastO l t).1) : splitK l t s = 0 ∧ splitC l t s = (leastO l t).1 := by
  have h0 : textK l t = 0 := by
    by_cases h0 : textK l t = 0
    · exact h0
    · unfold countN at hn; rw [if_neg h0] at hn; omega
  have hk := splitK_of h0 h1
  exact ⟨hk, by unfold splitC; rw [if_pos hk]; exact h2⟩

set_option maxHeartbeats 4000000 in
set_option maxRecDepth 100000 in
theorem tagLeast_c (iv fv : Value) (l : Lex) (textv : Value) (text : List Int) (w : World) (h : LexR w iv fv l) (htext : Ints w textv text) :
    Calls Try.prog 13 #[.agg #[iv, fv], textv] w (RV (.bool true) w) := by
  obtain ⟨wA, hwA⟩ : ∃ wA, wA = w.alloc (.cells #[iv, fv] 25) := ⟨_, rfl⟩
  have hE0 : Ext w wA := by rw [hwA]; exact Ext.alloc _ _
  have k0 : ∀ W, Ext wA W → W.cell? ⟨w.heap.size, 0, none⟩ = some iv := by rw [hwA]; exact kept_alloc w _ _ rfl
  have k1 : ∀ W, Ext wA W → W.cell? ⟨w.heap.size, 1, none⟩ = some fv := by rw [hwA]; exact kept_alloc w _ _ rfl
  have H0 : Ext wA wA := Ext.refl _
  have HR := Lib.hid (h.ext hE0)
  obtain ⟨ai, ci, rfl, hli, hmi, HI⟩ := (h.ext hE0).i.open_
  obtain ⟨af, cf, rfl, hlf, hmf, HF⟩ := Rows.open_ (h.ext hE0).f
  have HI_text := Lib.hid (htext.ext hE0)
  obtain ⟨a_text, c_text, rfl, hl_text, hm_text, HU_text⟩ := (htext.ext hE0).open_
  have hxL := Ext.alloc wA (.cells #[.slice a_text text.length c_text] 26)
  have HLG := Lib.hid (by have := Long_c _ _ _ l [text] _ (HR.out.ext hxL) (rows_new wA [.slice a_text text.length c_text] [text] (AllInts.cons HI_text.out (AllInts.nil _)) (by simp)); rw [show wA.heap.size = w.heap.size + 1 by rw [hwA]; simp] at this; exact this)
  have HW := Lib.hid hwA; clear hwA h htext
  have HLB := Lib.hid (longX_lists (l := l) (ls := [text]))
  have HLF := Lib.hid (longX_fol (l := l) (ls := [text]))
  generalize longX l [text] = b1 at *
  cases b1
  · have HLB2 := HLB.out rfl
    have HLF2 := Lib.hid (HLF.out rfl)
    clear HLB HLF
    have hl3_text : text.length ≤ 300 := HLB2 text (by simp)
    clear HLB2
    go_enter Try.func13, Try.ntmps13
    go_wp2_with fail
    rw [← HW.out]
    refine HLG.out.mono ?_; rintro e w2 ⟨rfl, hx2⟩
    have hX := hxL.trans hx2
    clear hx2 hxL
    clear HLG
    go_wp2_with fail
    have HLA := Lib.hid (fun W (hW : Ext wA W) => Least_c _ _ _ l text W (HR.out.ext hW) (HI_text.out.ext hW))
    have HLC := Lib.hid (fun W (hW : Ext wA W) => rLeast_c _ _ _ l text W (HR.out.ext hW) (HI_text.out.ext hW))
    have HCA := Lib.hid (fun W (hW : Ext wA W) => Count_c _ _ _ l text W (HR.out.ext hW) (HI_text.out.ext hW))
    have HCB := Lib.hid (fun W (hW : Ext wA W) => rCount_c _ _ _ l text W (HR.out.ext hW) (HI_text.out.ext hW))
    have HBE := Lib.hid (fun W (hW : Ext wA W) => Best_c _ _ _ l text W (HR.out.ext hW) (HI_text.out.ext hW))
    have HCK := Lib.hid (fun W (hW : Ext wA W) sv s (hs : Ints W sv s) => rCheckSplit_c _ _ _ sv l text s W (HR.out.ext hW) (HI_text.out.ext hW) hs)
    have HSC := Lib.hid (fun s => least_split (l := l) (t := text) (s := s))
    unfold RBest at HBE
    obtain ⟨b, hb⟩ : ∃ b, (leastO l text).2 = b := ⟨_, rfl⟩
    cases b
    · have hn0 := least_none hb
      rw [hb] at HLA HLC HBE
      rw [hn0] at HCA HCB
      clear hn0 hb HCK HSC
      generalize (leastO l text).1 = n at *
      generalize textK l text = k at *
      have hd1 : (n != n) = false := by simp
      have hd2 : (k != k) = false := by simp
      refine (HLA.out w2 hX).mono ?_; rintro e w3 ⟨rfl, hx3⟩
      have hX3 := hX.trans hx3
      go_wp2_with fail
      refine (HLC.out w3 hX3).mono ?_; rintro e w4 ⟨rfl, hx4⟩
      have hX4 := hX3.trans hx4
      go_wp2_with fail
      refine (HCA.out w4 hX4).mono ?_; rintro e w5 ⟨rfl, hx5⟩
      have hX5 := hX4.trans hx5
      go_wp2_with fail
      refine (HCB.out w5 hX5).mono ?_; rintro e w6 ⟨rfl, hx6⟩
      have hX6 := hX5.trans hx6
      go_wp2_with fail
      refine (HBE.out w6 hX6).mono ?_; rintro e w7 ⟨v7, s7, rfl, hv7, hx7, _, hs7⟩
      have hX7 := hX6.trans hx7
      obtain rfl := hs7 (by trivial)
      obtain ⟨a7, c7, hv, _⟩ := hv7.open_
      rw [List.length_nil] at hv; subst hv
      clear hv7 hs7
      go_wp2_with fail
      refine (sane_c _).mono ?_; rintro e wK ⟨rfl, hxK⟩
      go_wp2_with fail
      go_ret
      exact RV.bool rfl (hE0.trans (hX7.trans hxK))
    · obtain ⟨h0, hn⟩ := least_some hb
      rw [hb, h0] at HLA HLC HBE
      rw [h0] at HCA HCB
      clear h0 hb
      have HSK : Hid (∀ s, IsSp l (-1) text s → costL l s = (leastO l text).1 → splitK l text s = 0 ∧ splitC l text s = (leastO l text).1) := Lib.hid (fun s h1 h2 => HSC.out s hn h1 h2)
      clear HSC
      generalize (leastO l text).1 = n at *
      generalize countN l text = q at *
      have hd1 : (n != n) = false := by simp
      have hd3 : (n == n) = true := by simp
      have hd2 : (q != q) = false := by simp
      have hd4 : decide (0 < q) = true := decide_eq_true hn
      refine (HLA.out w2 hX).mono ?_; rintro e w3 ⟨rfl, hx3⟩
      have hX3 := hX.trans hx3
      go_wp2_with fail
      refine (HLC.out w3 hX3).mono ?_; rintro e w4 ⟨rfl, hx4⟩
      have hX4 := hX3.trans hx4
      go_wp2_with fail
      refine (HCA.out w4 hX4).mono ?_; rintro e w5 ⟨rfl, hx5⟩
      have hX5 := hX4.trans hx5
      go_wp2_with fail
      refine (HCB.out w5 hX5).mono ?_; rintro e w6 ⟨rfl, hx6⟩
      have hX6 := hX5.trans hx6
      go_wp2_with fail
      refine (HBE.out w6 hX6).mono ?_; rintro e w7 ⟨v7, s7, rfl, hv7, hx7, hs7, _⟩
      have hX7 := hX6.trans hx7
      obtain ⟨hs1, hs2⟩ := hs7 (by trivial)
      obtain ⟨e1, e2⟩ := HSK.out s7 hs1 hs2
      have HCX := Lib.hid (HCK.out w7 hX7 v7 s7 hv7)
      rw [e1, e2] at HCX
      clear hv7 hs7 hs1 hs2 e1 e2
      go_wp2_with fail
      refine HCX.out.mono ?_; rintro e w8 ⟨rfl, hx8⟩
      have hX8 := hX7.trans hx8
      go_wp2_with fail
      refine (sane_c _).mono ?_; rintro e wK ⟨rfl, hxK⟩
      go_wp2_with fail
      go_ret
      exact RV.bool rfl (hE0.trans (hX8.trans hxK))
  · go_enter Try.func13, Try.ntmps13
    go_wp2_with fail
    rw [← HW.out]
    refine HLG.out.mono ?_; rintro e w2 ⟨rfl, hx2⟩
    have hX := hxL.trans hx2
    clear hx2 hxL
    go_wp2_with fail
    refine (sane_c _).mono ?_; rintro e wK ⟨rfl, hxK⟩
    go_wp2_with fail
    go_ret
    exact RV.bool rfl (hE0.trans (hX.trans hxK))
end Go.Proofs.Ytgpggmcjggpmpaa
