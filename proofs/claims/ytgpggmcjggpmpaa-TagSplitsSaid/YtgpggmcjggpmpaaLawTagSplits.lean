/- TagSplits: for every input the call returns true. No condition. -/
import Derived.Test.YtgpggmcjggpmpaaTagY
namespace Go.Proofs.Ytgpggmcjggpmpaa
open Go.RowKit Go.Shelf
set_option linter.unusedVariables false

set_option maxHeartbeats 4000000 in
set_option maxRecDepth 100000 in
theorem tagSplits_c (iv fv : Value) (l : Lex) (textv : Value) (text : List Int) (splitv : Value) (split : List Int) (w : World) (h : LexR w iv fv l) (htext : Ints w textv text) (hsplit : Ints w splitv split) :
    Calls Try.prog 10 #[.agg #[iv, fv], textv, splitv] w (RV (.bool true) w) := by
  obtain ⟨wA, hwA⟩ : ∃ wA, wA = w.alloc (.cells #[iv, fv] 25) := ⟨_, rfl⟩
  have hE0 : Ext w wA := by rw [hwA]; exact Ext.alloc _ _
  have k0 : ∀ W, Ext wA W → W.cell? ⟨w.heap.size, 0, none⟩ = some iv := by rw [hwA]; exact kept_alloc w _ _ rfl
  have k1 : ∀ W, Ext wA W → W.cell? ⟨w.heap.size, 1, none⟩ = some fv := by rw [hwA]; exact kept_alloc w _ _ rfl
  have H0 : Ext wA wA := Ext.refl _
  have HR := Lib.hid (h.ext hE0)
  obtain ⟨ai, ci, rfl, hli, hmi, HI⟩ := (h.ext hE0).i.open_
  obtain ⟨af, cf, rfl, hlf, hmf, HF⟩ := Rows.open_ (h.ext hE0).f
  have HI_text := Lib.hid (htext.ext hE0)
  obtain ⟨a_text, c_text, rfl, hl_text, hm_text, HU_text⟩ := (htext.ext hE0).open_
  have HI_split := Lib.hid (hsplit.ext hE0)
  obtain ⟨a_split, c_split, rfl, hl_split, hm_split, HU_split⟩ := (hsplit.ext hE0).open_
  have hxL := Ext.alloc wA (.cells #[.slice a_text text.length c_text, .slice a_split split.length c_split] 26)
  have HLG := Lib.hid (by have := Long_c _ _ _ l [text, split] _ (HR.out.ext hxL) (rows_new wA [.slice a_text text.length c_text, .slice a_split split.length c_split] [text, split] (AllInts.cons HI_text.out (AllInts.cons HI_split.out (AllInts.nil _))) (by simp)); rw [show wA.heap.size = w.heap.size + 1 by rw [hwA]; simp] at this; exact this)
  have HW := Lib.hid hwA; clear hwA h htext hsplit
  have HLB := Lib.hid (longX_lists (l := l) (ls := [text, split]))
  have HLF := Lib.hid (longX_fol (l := l) (ls := [text, split]))
  generalize longX l [text, split] = b1 at *
  cases b1
  · have HLB2 := HLB.out rfl
    have HLF2 := Lib.hid (HLF.out rfl)
    clear HLB HLF
    have hl3_text : text.length ≤ 300 := HLB2 text (by simp)
    have hl3_split : split.length ≤ 300 := HLB2 split (by simp)
    clear HLB2
    go_enter Try.func10, Try.ntmps10
    go_wp2_with fail
    rw [← HW.out]
    refine HLG.out.mono ?_; rintro e w2 ⟨rfl, hx2⟩
    have hX := hxL.trans hx2
    clear hx2 hxL
    clear HLG
    go_wp2_with fail
    refine (CheckSplit_c _ _ _ _ l text split w2 (HR.out.ext hX) (HI_text.out.ext hX) (HI_split.out.ext hX)).mono ?_; rintro e w3 ⟨rfl, hx3⟩
    have hX3 := hX.trans hx3
    go_wp2_with fail
    refine (rCheckSplit_c _ _ _ _ l text split w3 (HR.out.ext hX3) (HI_text.out.ext hX3) (HI_split.out.ext hX3)).mono ?_; rintro e w4 ⟨rfl, hx4⟩
    have hX4 := hX3.trans hx4
    have HVA := Lib.hid (fun s : Later w4 => Validate_c _ _ l s.w (HR.out.ext (hX4.trans s.ext)))
    have HVB := Lib.hid (fun s : Later w4 => rValidate_c _ _ l s.w (HR.out.ext (hX4.trans s.ext)))
    have hs : ∀ s : Later w4, Ext wA s.w := fun s => hX4.trans s.ext
    have HLC := Lib.hid (fun W hW => Least_c _ _ _ l text W (HR.out.ext hW) (HI_text.out.ext hW))
    have HLE := Lib.hid (leastO_le (l := l) (t := text) (s := split))
    have HSK : Hid (splitK l text split = 0 → textK l text = 0) := Lib.hid (fun h => (splitK_ok h).2.2.2.2)
    generalize splitC l text split = c at *
    generalize splitK l text split = k at *
    generalize validL l = j at *
    generalize textK l text = tk at *
    generalize (leastO l text).1 = n at *
    generalize (leastO l text).2 = b at *
    have h1 : (c != c) = false := by simp
    have h2 : (k != k) = false := by simp
    have h3 : (j != j) = false := by simp
    clear hx3 hx4
    go_wp2_with fail
    refine wp_region_later (by kernel_rfl) (by kernel_rfl) ?_
    repeat (go_big_quiet_step ((first | (go_at_call 43; first | with_reducible exact Later.call (HVA.out _)) | (go_at_call 44; first | with_reducible exact Later.call (HVB.out _)))))
    refine wpQuiet_nil ?_
    intro w5 hw'
    obtain ⟨⟨_, hx5⟩, rfl⟩ := hw'
    clear hs
    have hX5 := hX4.trans hx5
    go_wp2_with fail
    refine (HLC.out w5 hX5).mono ?_; rintro e w6 ⟨rfl, hx6⟩
    have hX6 := hX5.trans hx6
    by_cases hk : k = 0
    · obtain ⟨hb, hn⟩ := HLE.out hk
      have htk := HSK.out hk
      subst hb
      have hd1 : (k != 0) = false := by simp [hk]
      have hd2 : (tk == 0) = true := by simp [htk]
      have hd3 : decide (n ≤ c) = true := decide_eq_true hn
      have HN := Lib.hid hn
      clear hk htk hn
      go_wp2_with fail
      refine (sane_c _).mono ?_; rintro e wK ⟨rfl, hxK⟩
      go_wp2_with fail
      go_ret
      exact RV.bool rfl (hE0.trans (hX6.trans hxK))
    · have hd1 : (k != 0) = true := by simpa using hk
      clear hk
      go_wp2_with fail
      refine (sane_c _).mono ?_; rintro e wK ⟨rfl, hxK⟩
      go_wp2_with fail
      go_ret
      exact RV.bool rfl (hE0.trans (hX6.trans hxK))
  · go_enter Try.func10, Try.ntmps10
    go_wp2_with fail
    rw [← HW.out]
    refine HLG.out.mono ?_; rintro e w2 ⟨rfl, hx2⟩
    have hX := hxL.trans hx2
    clear hx2 hxL
    go_wp2_with fail
    refine (sane_c _).mono ?_; rintro e wK ⟨rfl, hxK⟩
    go_wp2_with fail
    go_ret
    exact RV.bool rfl (hE0.trans (hX.trans hxK))
end Go.Proofs.Ytgpggmcjggpmpaa
