/- TagProves: for every input the call returns true. No condition. -/
import Derived.Test.YtgpggmcjggpmpaaTagY
import Derived.Test.YtgpggmcjggpmpaaTagJ
import Derived.Test.YtgpggmcjggpmpaaTagNc
import Derived.Test.YtgpggmcjggpmpaaTagS
namespace Go.Proofs.Ytgpggmcjggpmpaa
open Go.RowKit Go.Shelf
set_option linter.unusedVariables false

set_option maxHeartbeats 4000000 in
set_option maxRecDepth 100000 in
theorem tagProves_c (iv fv : Value) (l : Lex) (textv : Value) (text : List Int) (w : World) (h : LexR w iv fv l) (htext : Ints w textv text) :
    Calls Try.prog 7 #[.agg #[iv, fv], textv] w (RV (.bool true) w) := by
  obtain ⟨wA, hwA⟩ : ∃ wA, wA = w.alloc (.cells #[iv, fv] 25) := ⟨_, rfl⟩
  have hE0 : Ext w wA := by rw [hwA]; exact Ext.alloc _ _
  have k0 : ∀ W, Ext wA W → W.cell? ⟨w.heap.size, 0, none⟩ = some iv := by rw [hwA]; exact kept_alloc w _ _ rfl
  have k1 : ∀ W, Ext wA W → W.cell? ⟨w.heap.size, 1, none⟩ = some fv := by rw [hwA]; exact kept_alloc w _ _ rfl
  have H0 : Ext wA wA := Ext.refl _
  have HR := Lib.hid (h.ext hE0)
  obtain ⟨ai, ci, rfl, hli, hmi, HI⟩ := (h.ext hE0).i.open_
  obtain ⟨af, cf, rfl, hlf, hmf, HF⟩ := Rows.open_ (h.ext hE0).f
  have HI_text := Lib.hid (htext.ext hE0)
  obtain ⟨a_text, c_text, rfl, hl_text, hm_text, HU_text⟩ := (htext.ext hE0).open_
  have hxL := Ext.alloc wA (.cells #[.slice a_text text.length c_text] 26)
  have HLG := Lib.hid (by have := Long_c _ _ _ l [text] _ (HR.out.ext hxL) (rows_new wA [.slice a_text text.length c_text] [text] (AllInts.cons HI_text.out (AllInts.nil _)) (by simp)); rw [show wA.heap.size = w.heap.size + 1 by rw [hwA]; simp] at this; exact this)
  have HW := Lib.hid hwA; clear hwA h htext
  have HLB := Lib.hid (longX_lists (l := l) (ls := [text]))
  have HLF := Lib.hid (longX_fol (l := l) (ls := [text]))
  generalize longX l [text] = b1 at *
  cases b1
  · have HLB2 := HLB.out rfl
    have HLF2 := Lib.hid (HLF.out rfl)
    clear HLB HLF
    have hl3_text : text.length ≤ 300 := HLB2 text (by simp)
    clear HLB2
    go_enter Try.func7, Try.ntmps7
    go_wp2_with fail
    rw [← HW.out]
    refine HLG.out.mono ?_; rintro e w2 ⟨rfl, hx2⟩
    have hX := hxL.trans hx2
    clear hx2 hxL
    clear HLG
    go_wp2_with fail
    have HPF := Lib.hid (Proof_c _ _ _ l text w2 (HR.out.ext hX) (HI_text.out.ext hX))
    have HLS := Lib.hid (fun W (hW : Ext wA W) => rLeast_c _ _ _ l text W (HR.out.ext hW) (HI_text.out.ext hW))
    by_cases h0 : textK l text = 0
    · by_cases hb : (leastO l text).2 = true
      · obtain ⟨e1, e2⟩ := prove_c h0 hb
        rw [e1, e2] at HPF
        have HCP := Lib.hid (fun W (hW : Ext wA W) pv hp => rCheckProof_c _ _ _ pv l text (tabT l text (text.length + 1)) W (HR.out.ext hW) (HI_text.out.ext hW) hp)
        rw [tab_proof h0, tab_worth h0 hb, hb] at HCP
        rw [hb, h0] at HLS
        clear e1 e2 hb h0
        generalize (leastO l text).1 = n at *
        have hd1 : (n == n) = true := by simp
        refine HPF.out.mono ?_; rintro e w3 ⟨v3, rfl, hv3, hx3⟩
        have hX3 := hX.trans hx3
        have HV3 := Lib.hid hv3; clear hv3
        go_wp2_with fail
        refine (HLS.out w3 hX3).mono ?_; rintro e w4 ⟨rfl, hx4⟩
        have hX4 := hX3.trans hx4
        go_wp2_with fail
        refine (HCP.out w4 hX4 v3 (Rows.ext HV3.out hx4)).mono ?_; rintro e w5 ⟨rfl, hx5⟩
        have hX5 := hX4.trans hx5
        go_wp2_with fail
        refine (sane_c _).mono ?_; rintro e wK ⟨rfl, hxK⟩
        go_wp2_with fail
        go_ret
        exact RV.bool rfl (hE0.trans (hX5.trans hxK))
      · have hb : (leastO l text).2 = false := by simpa using hb
        obtain ⟨e1, e2⟩ := prove_b h0 hb
        rw [e1, e2] at HPF
        rw [hb, h0] at HLS
        clear e1 e2 hb h0
        generalize (leastO l text).1 = n at *
        refine HPF.out.mono ?_; rintro e w3 ⟨v3, rfl, hv3, hx3⟩
        have hX3 := hX.trans hx3
        obtain ⟨a3, c3, hv, _⟩ := Rows.open_ hv3
        rw [List.length_nil] at hv; subst hv
        clear hv3
        go_wp2_with fail
        refine (HLS.out w3 hX3).mono ?_; rintro e w4 ⟨rfl, hx4⟩
        have hX4 := hX3.trans hx4
        go_wp2_with fail
        refine (sane_c _).mono ?_; rintro e wK ⟨rfl, hxK⟩
        go_wp2_with fail
        go_ret
        exact RV.bool rfl (hE0.trans (hX4.trans hxK))
    · obtain ⟨e1, e2⟩ := prove_a (t := text) h0
      rw [e1, e2] at HPF
      clear e1 e2
      generalize textK l text = k at *
      generalize (leastO l text).1 = n at *
      generalize (leastO l text).2 = b at *
      have hk : (k != 0) = true := by simpa using h0
      have hk2 : (k == k) = true := by simp
      clear h0
      refine HPF.out.mono ?_; rintro e w3 ⟨v3, rfl, hv3, hx3⟩
      have hX3 := hX.trans hx3
      obtain ⟨a3, c3, hv, _⟩ := Rows.open_ hv3
      rw [List.length_nil] at hv; subst hv
      clear hv3
      go_wp2_with fail
      refine (HLS.out w3 hX3).mono ?_; rintro e w4 ⟨rfl, hx4⟩
      have hX4 := hX3.trans hx4
      go_wp2_with fail
      refine (sane_c _).mono ?_; rintro e wK ⟨rfl, hxK⟩
      go_wp2_with fail
      go_ret
      exact RV.bool rfl (hE0.trans (hX4.trans hxK))
  · go_enter Try.func7, Try.ntmps7
    go_wp2_with fail
    rw [← HW.out]
    refine HLG.out.mono ?_; rintro e w2 ⟨rfl, hx2⟩
    have hX := hxL.trans hx2
    clear hx2 hxL
    go_wp2_with fail
    refine (sane_c _).mono ?_; rintro e wK ⟨rfl, hxK⟩
    go_wp2_with fail
    go_ret
    exact RV.bool rfl (hE0.trans (hX.trans hxK))
end Go.Proofs.Ytgpggmcjggpmpaa
