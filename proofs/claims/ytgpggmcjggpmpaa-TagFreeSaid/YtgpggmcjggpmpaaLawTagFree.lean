/- TagFree: for every input the call returns true. No condition. -/
import Derived.Test.YtgpggmcjggpmpaaTagY
import Derived.Test.YtgpggmcjggpmpaaTagCf
import Derived.Test.YtgpggmcjggpmpaaTagSe
import Derived.Test.YtgpggmcjggpmpaaTagG
namespace Go.Proofs.Ytgpggmcjggpmpaa
open Go.RowKit Go.Shelf
set_option linter.unusedVariables false
theorem text_short {l : Lex} {t : List Int} : True := trivial
theorem free_count {l : Lex} {u v : List Int} (h : validL l = 0) : 0 ≤ countN (freeL l) u ∧ 0 ≤ countN (freeL l) v ∧ (textK (freeL l) u = 0 → textK (freeL l) v = 0 → textK (freeL l) (u ++ v) = 0 → countN (freeL l) u * countN (freeL l) v ≤ countN (freeL l) (u ++ v) ∧ countN (freeL l) (u ++ v) ≤ 68719476736) := by
  have hl := validL_ok h
  have hc : ∀ t, 0 ≤ countN (freeL l) t := fun t => by
    unfold countN; split
    · unfold cntR; omega
    · omega
  refine ⟨hc u, hc v, fun hu hv hz => ?_⟩
  have e : freeL l = freeX l := by unfold freeL; rw [if_pos h]
  rw [e] at hu hv hz ⊢
  unfold countN
  rw [if_pos hu, if_pos hv, if_pos hz]
  obtain ⟨h1, h2, _⟩ := textK_ok hz
  exact ⟨free_mul hl u v, (cntR_bd h1.n8 h2 _).2⟩

set_option maxHeartbeats 4000000 in
set_option maxRecDepth 100000 in
theorem tagFree_c (iv fv : Value) (l : Lex) (uv : Value) (u : List Int) (vv : Value) (v : List Int) (w : World) (h : LexR w iv fv l) (hu : Ints w uv u) (hv : Ints w vv v) :
    Calls Try.prog 9 #[.agg #[iv, fv], uv, vv] w (RV (.bool true) w) := by
  obtain ⟨wA, hwA⟩ : ∃ wA, wA = w.alloc (.cells #[iv, fv] 25) := ⟨_, rfl⟩
  have hE0 : Ext w wA := by rw [hwA]; exact Ext.alloc _ _
  have k0 : ∀ W, Ext wA W → W.cell? ⟨w.heap.size, 0, none⟩ = some iv := by rw [hwA]; exact kept_alloc w _ _ rfl
  have k1 : ∀ W, Ext wA W → W.cell? ⟨w.heap.size, 1, none⟩ = some fv := by rw [hwA]; exact kept_alloc w _ _ rfl
  have H0 : Ext wA wA := Ext.refl _
  have HR := Lib.hid (h.ext hE0)
  obtain ⟨ai, ci, rfl, hli, hmi, HI⟩ := (h.ext hE0).i.open_
  obtain ⟨af, cf, rfl, hlf, hmf, HF⟩ := Rows.open_ (h.ext hE0).f
  have HI_u := Lib.hid (hu.ext hE0)
  obtain ⟨a_u, c_u, rfl, hl_u, hm_u, HU_u⟩ := (hu.ext hE0).open_
  have HI_v := Lib.hid (hv.ext hE0)
  obtain ⟨a_v, c_v, rfl, hl_v, hm_v, HU_v⟩ := (hv.ext hE0).open_
  have hxL := Ext.alloc wA (.cells #[.slice a_u u.length c_u, .slice a_v v.length c_v] 26)
  have HLG := Lib.hid (by have := Long_c _ _ _ l [u, v] _ (HR.out.ext hxL) (rows_new wA [.slice a_u u.length c_u, .slice a_v v.length c_v] [u, v] (AllInts.cons HI_u.out (AllInts.cons HI_v.out (AllInts.nil _))) (by simp)); rw [show wA.heap.size = w.heap.size + 1 by rw [hwA]; simp] at this; exact this)
  have HW := Lib.hid hwA; clear hwA h hu hv
  have HLB := Lib.hid (longX_lists (l := l) (ls := [u, v]))
  have HLF := Lib.hid (longX_fol (l := l) (ls := [u, v]))
  generalize longX l [u, v] = b1 at *
  cases b1
  · have HLB2 := HLB.out rfl
    have HLF2 := Lib.hid (HLF.out rfl)
    clear HLB HLF
    have hl3_u : u.length ≤ 300 := HLB2 u (by simp)
    have hl3_v : v.length ≤ 300 := HLB2 v (by simp)
    clear HLB2
    go_enter Try.func9, Try.ntmps9
    go_wp2_with fail
    rw [← HW.out]
    refine HLG.out.mono ?_; rintro e w2 ⟨rfl, hx2⟩
    have hX := hxL.trans hx2
    clear hx2 hxL
    clear HLG
    go_wp2_with fail
    have HFA := Lib.hid (fun W (hW : Ext wA W) => Free_c _ _ l W (HR.out.ext hW))
    have HFB := Lib.hid (fun W (hW : Ext wA W) => rFree_c _ _ l W (HR.out.ext hW))
    refine (HFA.out w2 hX).mono ?_; rintro e w3 ⟨iv3, fv3, rfl, ho3, hx3⟩
    have hX3 := hX.trans hx3
    have HL3 := Lib.hid ho3.lexR
    obtain ⟨a3, c3, rfl, _, _, _⟩ := ho3.lexR.i.open_
    obtain ⟨b3, d3, rfl, _, _, _⟩ := Rows.open_ ho3.lexR.f
    have hA3 := Ext.alloc w3 (.cells #[.slice a3 (freeL l).i.length c3, .slice b3 (freeL l).f.length d3] 25)
    have f0 : ∀ W, Ext (w3.alloc (.cells #[.slice a3 (freeL l).i.length c3, .slice b3 (freeL l).f.length d3] 25)) W → W.cell? ⟨w3.heap.size, 0, none⟩ = some (.slice a3 (freeL l).i.length c3) := kept_alloc w3 _ _ rfl
    have f1 : ∀ W, Ext (w3.alloc (.cells #[.slice a3 (freeL l).i.length c3, .slice b3 (freeL l).f.length d3] 25)) W → W.cell? ⟨w3.heap.size, 1, none⟩ = some (.slice b3 (freeL l).f.length d3) := kept_alloc w3 _ _ rfl
    have HL4 := Lib.hid (HL3.out.ext hA3)
    have hX4 := hX3.trans hA3
    have hX4r := hX3.trans hA3
    have hA3r := hA3
    obtain ⟨W4, hW4⟩ : ∃ W4, W4 = w3.alloc (.cells #[.slice a3 (freeL l).i.length c3, .slice b3 (freeL l).f.length d3] 25) := ⟨_, rfl⟩
    rw [← hW4] at f0 f1 HL4 hX4 hA3
    have HW4 := Lib.hid hW4; clear hW4 ho3
    have HCT := Lib.hid (fun h => free_count (l := l) (u := u) (v := v) h)
    have HCU := Lib.hid (fun W (hW : Ext W4 W) => Count_c _ _ _ (freeL l) u W (HL4.out.ext hW) (HI_u.out.ext (hX4.trans hW)))
    have HCV := Lib.hid (fun W (hW : Ext W4 W) => Count_c _ _ _ (freeL l) v W (HL4.out.ext hW) (HI_v.out.ext (hX4.trans hW)))
    have HCW := Lib.hid (fun W tv (hW : Ext W4 W) (ht : Ints W tv (u ++ v)) => Count_c _ _ tv (freeL l) (u ++ v) W (HL4.out.ext hW) ht)
    go_wp2_with fail
    rw [← HW4.out]
    clear hX4r hA3r
    refine (HFB.out W4 hX4).mono ?_; rintro e w5 ⟨iv5, fv5, rfl, ho5, hx5⟩
    have HL5 := Lib.hid ho5.lexR
    obtain ⟨a5, c5, rfl, _, _, _⟩ := ho5.lexR.i.open_
    obtain ⟨b5, d5, rfl, _, _, _⟩ := Rows.open_ ho5.lexR.f
    clear ho5
    have hA5 := Ext.alloc w5 (.cells #[.slice a5 (freeL l).i.length c5, .slice b5 (freeL l).f.length d5] 25)
    have g0 : ∀ W, Ext (w5.alloc (.cells #[.slice a5 (freeL l).i.length c5, .slice b5 (freeL l).f.length d5] 25)) W → W.cell? ⟨w5.heap.size, 0, none⟩ = some (.slice a5 (freeL l).i.length c5) := kept_alloc w5 _ _ rfl
    have g1 : ∀ W, Ext (w5.alloc (.cells #[.slice a5 (freeL l).i.length c5, .slice b5 (freeL l).f.length d5] 25)) W → W.cell? ⟨w5.heap.size, 1, none⟩ = some (.slice b5 (freeL l).f.length d5) := kept_alloc w5 _ _ rfl
    have HL6 := Lib.hid (HL5.out.ext hA5)
    have hX46 := hx5.trans hA5
    have hX6 := hX4.trans hX46
    have hX46r := hX46
    have H66r := Ext.refl (w5.alloc (.cells #[.slice a5 (freeL l).i.length c5, .slice b5 (freeL l).f.length d5] 25))
    obtain ⟨W6, hW6⟩ : ∃ W6, W6 = w5.alloc (.cells #[.slice a5 (freeL l).i.length c5, .slice b5 (freeL l).f.length d5] 25) := ⟨_, rfl⟩
    rw [← hW6] at g0 g1 HL6 hX6 hX46
    have HW6 := Lib.hid hW6; clear hW6 hA5
    have HSM := Lib.hid (same_c _ _ _ _ (freeL l) W6 (HL4.out.ext hX46) HL6.out)
    have H66 := Ext.refl W6
    by_cases h0 : validL l = 0
    · rw [h0]
      have hd1 : ((0 : Int) != 0) = false := rfl
      have HVL := Lib.hid h0
      have HTU := Lib.hid (text_short (l := freeL l) (t := u))
      generalize hnL : (freeL l).i.length = nL at *
      generalize hnF : (freeL l).f.length = nF at *
      have HnL := Lib.hid hnL; have HnF := Lib.hid hnF
      clear h0 hnL hnF
      go_wp2_with fail
      rw [← HW6.out]
      clear hX46r H66r
      refine HSM.out.mono ?_; rintro e w7 ⟨rfl, hx7⟩
      have hX47 := hX46.trans hx7
      have hX7 := hX4.trans hX47
      go_wp2_with fail
      refine (HCU.out w7 hX47).mono ?_; rintro e w8 ⟨rfl, hx8⟩
      have hX48 := hX47.trans hx8
      have hX8 := hX4.trans hX48
      go_wp2_with fail
      refine (HCV.out w8 hX48).mono ?_; rintro e w9 ⟨rfl, hx9⟩
      have hX49 := hX48.trans hx9
      have hX9 := hX4.trans hX49
      go_wp2_with fail
      refine wp_region_tree (Ext w9) (.look 0 (.look 2 (.look 4 (.one 1 (.one 3 (.one 5 (.one 6 (.look 7 (.look 8 (.look 9 (.look 10 (.look 11 .done)))))))))))) (by kernel_rfl) (by kernel_rfl) (by intro c a d v w h; cases d <;> exact h) ?_
      have hd : Ext w9 { w9 with drawn := w9.drawn + 1 } := drawn_ext w9
      have hs : ∀ s : InC (Ext w9), Ext W4 s.w := fun s => hX49.trans s.h
      generalize { w9 with drawn := w9.drawn + 1 } = V1 at *
      iterate 3 (refine wpTree_look rfl ‹_› (fun K hK => ?_); go_simp; first | (refine hK _ ?_; clear hK K) | (refine ⟨_, fun _ => rfl, hK _ ?_⟩; clear hK K))
      clear hs
      refine wpTree_one rfl rfl (fun K hK => ?_)
      go_wp2_with fail
      refine ⟨fun h => h.trans (Ext.alloc _ _), ?_⟩
      have HEM := Lib.hid (empty_row V1)
      have hEa : Ext V1 (V1.alloc (.cells #[] 3)) := Ext.alloc _ _
      have hza := hEa.size
      have HUR := Lib.hid ((HI_u.out.ext (((hX9.trans hd)).trans hEa)).raw)
      refine wpTree_one rfl rfl (fun K hK => ?_)
      refine wpList_appendAll (m := u.length) (B := V1.heap.size) elInts rfl (.tmp 59) (.tmp 60) rfl rfl rfl HEM.out HUR.out (ints_one _) hza (by simp only [List.length_nil]; omega) (by simp only [List.length_nil]; omega) (fun v2 V2 ho2 hb2 => ?_)
      have hE2 : Ext V1 V2 := hEa.upto hb2 (Nat.le_refl _)
      rw [List.length_nil, Nat.zero_add] at ho2
      have HO2 : Hid (V2.ownsRow V1.heap.size 3 1 v2 u.length (ints u)) := Lib.hid ho2
      have HVR := Lib.hid ((HI_v.out.ext (((hX9.trans hd)).trans hE2)).raw)
      have hz2 := hE2.size
      clear ho2 hb2 HEM HUR
      go_wp2_with fail
      refine ⟨fun _ => hd.trans hE2, ?_⟩
      refine wpTree_one rfl rfl (fun K hK => ?_)
      refine wpList_appendAll (m := v.length) (B := V1.heap.size) elInts rfl (.tmp 61) (.tmp 62) rfl rfl rfl HO2.out HVR.out (ints_one _) hz2 (by omega) (by omega) (fun v3 V3 ho3 hb3 => ?_)
      have hE3 : Ext V1 V3 := hE2.upto hb3 (Nat.le_refl _)
      have hi3 : Ints V3 v3 (u ++ v) := OInts.ints (e := 3) (B := V1.heap.size) (by unfold OInts; rw [ints_append, List.length_append]; exact ho3)
      have hX4V := hX49.trans (hd.trans hE3)
      have HCZ := Lib.hid (HCW.out V3 v3 hX4V hi3)
      clear ho3 hb3 HVR HO2 hi3
      go_wp2_with fail
      refine ⟨fun _ => hd.trans hE3, ?_⟩
      refine wpTree_one rfl rfl (fun K hK => ?_)
      go_wp2_with fail
      refine HCZ.out.mono ?_; rintro e W10 ⟨rfl, hx10⟩
      have hC10 : Ext w9 W10 := hd.trans (hE3.trans hx10)
      go_wp2_with fail
      refine ⟨fun h => h.trans hx10, ?_⟩
      iterate 5 (refine wpTree_look rfl ‹_› (fun K hK => ?_); go_simp; first | (refine hK _ ?_; clear hK K) | (refine ⟨_, fun _ => rfl, hK _ ?_⟩; clear hK K))
      refine wpTree_done ?_
      have hX10 := hX9.trans hC10
      obtain ⟨hn1, hn2, hn3⟩ := HCT.out HVL.out
      generalize countN (freeL l) u = x at *
      generalize countN (freeL l) v = y at *
      generalize countN (freeL l) (u ++ v) = z at *
      generalize textK (freeL l) u = ku at *
      generalize textK (freeL l) v = kv at *
      generalize textK (freeL l) (u ++ v) = kz at *
      by_cases hu : ku = 0
      · have hdu : (ku != 0) = false := by simp [hu]
        by_cases hv : kv = 0
        · have hdv : (kv != 0) = false := by simp [hv]
          by_cases hz : kz = 0
          · have hdz : (kz != 0) = false := by simp [hz]
            obtain ⟨h1, h2⟩ := hn3 hu hv hz
            have e1 : decide (0 ≤ x) = true := decide_eq_true hn1
            have e2 : decide (0 ≤ y) = true := decide_eq_true hn2
            have e4 : IntKind.i64.wrap (x * y) = x * y := IntWalk.i64_in _ (by have := Int.mul_nonneg hn1 hn2; omega)
            have e3 : decide (x * y ≤ z) = true := decide_eq_true h1
            clear hu hv hz hn3
            go_wp2_with fail
            refine (sane_c _).mono ?_; rintro e wK ⟨rfl, hxK⟩
            go_wp2_with fail
            go_ret
            exact RV.bool rfl (hE0.trans (hX10.trans hxK))
          · have hdz : (kz != 0) = true := by simpa using hz
            clear hu hv hz hn3
            go_wp2_with fail
            refine (sane_c _).mono ?_; rintro e wK ⟨rfl, hxK⟩
            go_wp2_with fail
            go_ret
            exact RV.bool rfl (hE0.trans (hX10.trans hxK))
        · have hdv : (kv != 0) = true := by simpa using hv
          clear hu hv hn3
          go_wp2_with fail
          refine (sane_c _).mono ?_; rintro e wK ⟨rfl, hxK⟩
          go_wp2_with fail
          go_ret
          exact RV.bool rfl (hE0.trans (hX10.trans hxK))
      · have hdu : (ku != 0) = true := by simpa using hu
        clear hu hn3
        go_wp2_with fail
        refine (sane_c _).mono ?_; rintro e wK ⟨rfl, hxK⟩
        go_wp2_with fail
        go_ret
        exact RV.bool rfl (hE0.trans (hX10.trans hxK))
    · generalize validL l = k at *
      have hk : (k != 0) = true := by simpa using h0
      have hk2 : (k != k) = false := by simp
      generalize hnL : (freeL l).i.length = nL at *
      generalize hnF : (freeL l).f.length = nF at *
      have HnL := Lib.hid hnL; have HnF := Lib.hid hnF
      clear h0 hnL hnF
      go_wp2_with fail
      rw [← HW6.out]
      clear hX46r H66r
      refine HSM.out.mono ?_; rintro e w7 ⟨rfl, hx7⟩
      have hX7 := hX6.trans hx7
      go_wp2_with fail
      refine (sane_c _).mono ?_; rintro e wK ⟨rfl, hxK⟩
      go_wp2_with fail
      go_ret
      exact RV.bool rfl (hE0.trans (hX7.trans hxK))
  · go_enter Try.func9, Try.ntmps9
    go_wp2_with fail
    rw [← HW.out]
    refine HLG.out.mono ?_; rintro e w2 ⟨rfl, hx2⟩
    have hX := hxL.trans hx2
    clear hx2 hxL
    go_wp2_with fail
    refine (sane_c _).mono ?_; rintro e wK ⟨rfl, hxK⟩
    go_wp2_with fail
    go_ret
    exact RV.bool rfl (hE0.trans (hX.trans hxK))
end Go.Proofs.Ytgpggmcjggpmpaa
