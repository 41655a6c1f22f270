/- TagCodes: for every input the call returns true. No condition. -/
import Derived.Test.YtgpggmcjggpmpaaTagY
import Derived.Test.YtgpggmcjggpmpaaTagRc
namespace Go.Proofs.Ytgpggmcjggpmpaa
open Go.RowKit Go.Shelf
set_option linter.unusedVariables false

set_option maxHeartbeats 4000000 in
set_option maxRecDepth 100000 in
theorem tagCodes_c (iv fv : Value) (l : Lex) (w : World) (h : LexR w iv fv l) :
    Calls Try.prog 6 #[.agg #[iv, fv]] w (RV (.bool true) w) := by
  obtain ⟨wA, hwA⟩ : ∃ wA, wA = w.alloc (.cells #[iv, fv] 25) := ⟨_, rfl⟩
  have hE0 : Ext w wA := by rw [hwA]; exact Ext.alloc _ _
  have k0 : ∀ W, Ext wA W → W.cell? ⟨w.heap.size, 0, none⟩ = some iv := by rw [hwA]; exact kept_alloc w _ _ rfl
  have k1 : ∀ W, Ext wA W → W.cell? ⟨w.heap.size, 1, none⟩ = some fv := by rw [hwA]; exact kept_alloc w _ _ rfl
  have H0 : Ext wA wA := Ext.refl _
  have HR := Lib.hid (h.ext hE0)
  obtain ⟨ai, ci, rfl, hli, hmi, HI⟩ := (h.ext hE0).i.open_
  obtain ⟨af, cf, rfl, hlf, hmf, HF⟩ := Rows.open_ (h.ext hE0).f
  have HLG := Lib.hid (Long_c _ _ _ l [] wA HR.out (Rows.nil wA))
  have hxL := Ext.refl wA
  have HW := Lib.hid hwA; clear hwA h
  have HLB := Lib.hid (longX_lists (l := l) (ls := []))
  have HLF := Lib.hid (longX_fol (l := l) (ls := []))
  generalize longX l [] = b1 at *
  cases b1
  · have HLB2 := HLB.out rfl
    have HLF2 := Lib.hid (HLF.out rfl)
    clear HLB HLF
    clear HLB2
    go_enter Try.func6, Try.ntmps6
    go_wp2_with fail
    rw [← HW.out]
    refine HLG.out.mono ?_; rintro e w2 ⟨rfl, hx2⟩
    have hX := hxL.trans hx2
    clear hx2 hxL
    clear HLG
    go_wp2_with fail
    have HC1 := Lib.hid (fun W (hW : Ext wA W) => IsCode_c _ _ l W (HR.out.ext hW))
    have HC2 := Lib.hid (fun W (hW : Ext wA W) => rIsCode_c _ _ l W (HR.out.ext hW))
    have HTW := Lib.hid (fun W (hW : Ext wA W) => Two_c _ _ l W (HR.out.ext hW))
    by_cases h0 : validL l = 0
    · by_cases hn : notCode l
      · rw [isC_ok h0, codeB_no hn, h0] at HC1 HC2
        have HN := Lib.hid hn
        have H00 := Lib.hid h0
        clear hn h0
        refine (HC1.out _ hX).mono ?_; rintro e w3 ⟨rfl, hx3⟩
        have hX3 := hX.trans hx3
        go_wp2_with fail
        refine (HC2.out _ hX3).mono ?_; rintro e w4 ⟨rfl, hx4⟩
        have hX4 := hX3.trans hx4
        go_wp2_with fail
        refine (HTW.out _ hX4).mono ?_; rintro e w5 ⟨hx5, ⟨rfl, hno⟩ | ⟨a, b, av, bv, rfl, hv, ha, hb, ht, hal, hbl⟩⟩
        · exact absurd HN.out (hno H00.out)
        · have hX5 := hX4.trans hx5
          have HCT := Lib.hid (rCheckTwo_c _ _ _ _ l a b w5 (HR.out.ext hX5) ha hb)
          rw [twoK_of H00.out ht hal hbl] at HCT
          clear ha hb ht hal hbl hv
          go_wp2_with fail
          refine HCT.out.mono ?_; rintro e w6 ⟨rfl, hx6⟩
          have hX6 := hX5.trans hx6
          go_wp2_with fail
          refine (sane_c _).mono ?_; rintro e wK ⟨rfl, hxK⟩
          go_wp2_with fail
          go_ret
          exact RV.bool rfl (hE0.trans (hX6.trans hxK))
      · rw [isC_ok h0, codeB_yes hn, h0] at HC1 HC2
        have HTN := Lib.hid (fun W hW => (HTW.out W hW).mono (fun e w' h => show RV (.tuple #[.slice none 0 0, .slice none 0 0, .bool false, .int .i64 0]) W e w' from by
          rcases h with ⟨hx, ⟨rfl, _⟩ | ⟨a, b, _, _, _, _, _, _, ht, _⟩⟩
          · exact ⟨by rw [h0], hx⟩
          · exact absurd ⟨a, b, ht⟩ hn))
        clear hn h0
        refine (HC1.out _ hX).mono ?_; rintro e w3 ⟨rfl, hx3⟩
        have hX3 := hX.trans hx3
        go_wp2_with fail
        refine (HC2.out _ hX3).mono ?_; rintro e w4 ⟨rfl, hx4⟩
        have hX4 := hX3.trans hx4
        go_wp2_with fail
        refine (HTN.out _ hX4).mono ?_; rintro e w5 ⟨rfl, hx5⟩
        have hX5 := hX4.trans hx5
        go_wp2_with fail
        refine (sane_c _).mono ?_; rintro e wK ⟨rfl, hxK⟩
        go_wp2_with fail
        go_ret
        exact RV.bool rfl (hE0.trans (hX5.trans hxK))
    · rw [isC_bad h0] at HC1 HC2
      have HTN := Lib.hid (fun W hW => (HTW.out W hW).mono (fun e w' h => show RV (.tuple #[.slice none 0 0, .slice none 0 0, .bool false, .int .i64 (validL l)]) W e w' from by
        rcases h with ⟨hx, ⟨rfl, _⟩ | ⟨a, b, _, _, _, hv, _⟩⟩
        · exact ⟨rfl, hx⟩
        · exact absurd hv h0))
      clear HTW
      generalize validL l = k at *
      have hk : (k != 0) = true := by simpa using h0
      have hk2 : (k != k) = false := by simp
      clear h0
      refine (HC1.out _ hX).mono ?_; rintro e w3 ⟨rfl, hx3⟩
      have hX3 := hX.trans hx3
      go_wp2_with fail
      refine (HC2.out _ hX3).mono ?_; rintro e w4 ⟨rfl, hx4⟩
      have hX4 := hX3.trans hx4
      go_wp2_with fail
      refine (HTN.out _ hX4).mono ?_; rintro e w5 ⟨rfl, hx5⟩
      have hX5 := hX4.trans hx5
      go_wp2_with fail
      refine (sane_c _).mono ?_; rintro e wK ⟨rfl, hxK⟩
      go_wp2_with fail
      go_ret
      exact RV.bool rfl (hE0.trans (hX5.trans hxK))
  · go_enter Try.func6, Try.ntmps6
    go_wp2_with fail
    rw [← HW.out]
    refine HLG.out.mono ?_; rintro e w2 ⟨rfl, hx2⟩
    have hX := hxL.trans hx2
    clear hx2 hxL
    go_wp2_with fail
    refine (sane_c _).mono ?_; rintro e wK ⟨rfl, hxK⟩
    go_wp2_with fail
    go_ret
    exact RV.bool rfl (hE0.trans (hX.trans hxK))
end Go.Proofs.Ytgpggmcjggpmpaa
