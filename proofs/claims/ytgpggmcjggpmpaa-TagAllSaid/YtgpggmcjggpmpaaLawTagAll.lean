/- TagAll: for every input the call returns true. No condition. -/
import Derived.Test.YtgpggmcjggpmpaaTagY
import Derived.Test.YtgpggmcjggpmpaaTagAr
import Derived.Test.YtgpggmcjggpmpaaTagSm
namespace Go.Proofs.Ytgpggmcjggpmpaa
open Go.RowKit Go.Shelf
set_option linter.unusedVariables false
theorem all_split {l : Lex} {t : List Int} {i : Nat} (hi : i < (allL l t).length) : splitK l t ((allL l t)[i]?.getD []) = 0 := by
  have h : allK l t = 0 := by
    by_cases h : allK l t = 0
    · exact h
    · unfold allL at hi; rw [if_neg h] at hi; simp at hi
  have h0 : textK l t = 0 := by
    by_cases h0 : textK l t = 0
    · exact h0
    · unfold allK at h; rw [if_neg h0] at h; exact h
  have hl := (textK_ok h0).1
  rw [List.getElem?_eq_getElem hi, Option.getD_some]
  have e : allL l t = spl l t (-1) := by unfold allL; rw [if_pos h]
  have hm := List.getElem_mem hi
  obtain ⟨x, hx⟩ : ∃ x, x = (allL l t)[i] := ⟨_, rfl⟩
  rw [← hx] at hm ⊢
  rw [e] at hm
  exact splitK_of h0 ((splF_mem hl.noE _ _ _ _ (Nat.le_refl _)).1 hm)

set_option maxHeartbeats 4000000 in
set_option maxRecDepth 100000 in
theorem tagAll_c (iv fv : Value) (l : Lex) (textv : Value) (text : List Int) (w : World) (h : LexR w iv fv l) (htext : Ints w textv text) :
    Calls Try.prog 17 #[.agg #[iv, fv], textv] w (RV (.bool true) w) := by
  obtain ⟨wA, hwA⟩ : ∃ wA, wA = w.alloc (.cells #[iv, fv] 25) := ⟨_, rfl⟩
  have hE0 : Ext w wA := by rw [hwA]; exact Ext.alloc _ _
  have k0 : ∀ W, Ext wA W → W.cell? ⟨w.heap.size, 0, none⟩ = some iv := by rw [hwA]; exact kept_alloc w _ _ rfl
  have k1 : ∀ W, Ext wA W → W.cell? ⟨w.heap.size, 1, none⟩ = some fv := by rw [hwA]; exact kept_alloc w _ _ rfl
  have H0 : Ext wA wA := Ext.refl _
  have HR := Lib.hid (h.ext hE0)
  obtain ⟨ai, ci, rfl, hli, hmi, HI⟩ := (h.ext hE0).i.open_
  obtain ⟨af, cf, rfl, hlf, hmf, HF⟩ := Rows.open_ (h.ext hE0).f
  have HI_text := Lib.hid (htext.ext hE0)
  obtain ⟨a_text, c_text, rfl, hl_text, hm_text, HU_text⟩ := (htext.ext hE0).open_
  have hxL := Ext.alloc wA (.cells #[.slice a_text text.length c_text] 26)
  have HLG := Lib.hid (by have := Long_c _ _ _ l [text] _ (HR.out.ext hxL) (rows_new wA [.slice a_text text.length c_text] [text] (AllInts.cons HI_text.out (AllInts.nil _)) (by simp)); rw [show wA.heap.size = w.heap.size + 1 by rw [hwA]; simp] at this; exact this)
  have HW := Lib.hid hwA; clear hwA h htext
  have HLB := Lib.hid (longX_lists (l := l) (ls := [text]))
  have HLF := Lib.hid (longX_fol (l := l) (ls := [text]))
  generalize longX l [text] = b1 at *
  cases b1
  · have HLB2 := HLB.out rfl
    have HLF2 := Lib.hid (HLF.out rfl)
    clear HLB HLF
    have hl3_text : text.length ≤ 300 := HLB2 text (by simp)
    clear HLB2
    go_enter Try.func17, Try.ntmps17
    go_wp2_with fail
    rw [← HW.out]
    refine HLG.out.mono ?_; rintro e w2 ⟨rfl, hx2⟩
    have hX := hxL.trans hx2
    clear hx2 hxL
    clear HLG
    go_wp2_with fail
    have HAL := Lib.hid (fun W (hW : Ext wA W) => All_c _ _ _ l text W (HR.out.ext hW) (HI_text.out.ext hW))
    have HAR := Lib.hid (fun W (hW : Ext wA W) => rAll_c _ _ _ l text W (HR.out.ext hW) (HI_text.out.ext hW))
    have HCS := Lib.hid (fun W (hW : Ext wA W) sv s (hs : Ints W sv s) => CheckSplit_c _ _ _ sv l text s W (HR.out.ext hW) (HI_text.out.ext hW) hs)
    have HOK := Lib.hid (fun i hi => all_split (l := l) (t := text) (i := i) hi)
    generalize allL l text = L at *
    generalize allK l text = k at *
    have hd1 : (k != k) = false := by simp
    refine (HAL.out w2 hX).mono ?_; rintro e w3 ⟨v3, rfl, hv3, hx3⟩
    have hX3 := hX.trans hx3
    have HV3 : Hid (Rows w3 v3 L) := Lib.hid hv3; clear hv3
    go_wp2_with fail
    refine (HAR.out w3 hX3).mono ?_; rintro e w4 ⟨v4, rfl, hv4, hx4⟩
    have hX4 := hX3.trans hx4
    have HSL := Lib.hid (sameLists_c v3 v4 L L w4 (HV3.out.ext hx4) hv4)
    rw [decide_eq_true rfl] at HSL
    clear hv4
    obtain ⟨a3, c3, rfl, hl3, hm3, _⟩ := Rows.open_ HV3.out
    go_wp2_with fail
    refine HSL.out.mono ?_; rintro e w5 ⟨rfl, hx5⟩
    have hX5 := hX4.trans hx5
    have HV5 := Lib.hid (Rows.ext HV3.out (hx4.trans hx5))
    clear HV3 HSL
    go_wp2_with fail
    go_loopg [9] L.length (fun z ii wr => ∃ i : Nat, i ≤ L.length ∧ L.length ≤ i + z ∧ ii = .int .i64 i ∧ Ext w5 wr)
    case atStart => exact ⟨0, by omega, by omega, rfl, Ext.refl _⟩
    case round =>
      obtain ⟨i, hi, hiz, rfl, hE⟩ := hrel
      have hXr := hX5.trans hE
      by_cases hil : i < L.length
      · obtain ⟨a3', c3', hv, _, _, HRO⟩ := Rows.open_ (Rows.ext HV5.out hE)
        injection hv with hv1 _ hv3; subst hv1 hv3
        obtain ⟨b3, o3, rfl, u, hcu, hu⟩ := HRO.out i hil
        have hiI : (i : Int) < (L.length : Int) := by omega
        have hsp := HOK.out i hil
        have HCX := Lib.hid (fun s : Later wr => HCS.out s.w (hXr.trans s.ext) u _ (hu.ext s.ext))
        rw [hsp] at HCX
        have q0 := fun s : Later wr => s.ext.keep hcu
        have hs : ∀ s : Later wr, Ext wA s.w := fun s => hXr.trans s.ext
        clear hu hsp HRO
        generalize splitC l text (L[i]?.getD []) = c at *
        go_wp2_with fail
        refine wp_region_later (by kernel_rfl) (by kernel_rfl) ?_
        repeat (go_big_quiet_step ((first | (go_at_call 26; first | with_reducible exact Later.call (HCX.out _)))))
        refine wpQuiet_nil ?_
        intro w7 hw'
        obtain ⟨⟨_, hx7⟩, rfl⟩ := hw'
        clear q0 hs
        go_wp2_with fail
        go_roundg (gk-1)
        case measure => omega
        case rel => exact ⟨i+1, by omega, by omega, by go_num, hE.trans hx7⟩
      · go_wp2_with fail
        refine (sane_c _).mono ?_; rintro e wK ⟨rfl, hxK⟩
        go_wp2_with fail
        go_ret
        exact RV.bool rfl (hE0.trans (hXr.trans hxK))
  · go_enter Try.func17, Try.ntmps17
    go_wp2_with fail
    rw [← HW.out]
    refine HLG.out.mono ?_; rintro e w2 ⟨rfl, hx2⟩
    have hX := hxL.trans hx2
    clear hx2 hxL
    go_wp2_with fail
    refine (sane_c _).mono ?_; rintro e wK ⟨rfl, hxK⟩
    go_wp2_with fail
    go_ret
    exact RV.bool rfl (hE0.trans (hX.trans hxK))
end Go.Proofs.Ytgpggmcjggpmpaa
