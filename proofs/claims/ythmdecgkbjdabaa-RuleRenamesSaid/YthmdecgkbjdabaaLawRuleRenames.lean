/- RuleRenames: for every input the call returns true. No condition. -/
import Derived.Test.YthmdecgkbjdabaaLaw2
import Derived.Test.YthmdecgkbjdabaaRenB
import Derived.Test.YthmdecgkbjdabaaMir
namespace Go.Proofs.Ythmdecgkbjdabaa
open Go.RowKit Go.Shelf
set_option linter.unusedVariables false
theorem ren_word {x : Rul} {l tt : List Int} (h : renK (validR x) tt = 0) (hw : renK (validW l) tt = 0) : plK x l = 0 ∧ plK (renX x tt) (splL l tt) = 0 ∧ plL (renX x tt) (splL l tt) = plL x l := by
  have h1 : validR x = 0 := by
    unfold renK at h; split at h
    · assumption
    · exact h
  have ho : ordB tt = true := by
    rw [renK, if_pos h1] at h
    split at h
    · assumption
    · omega
  have h2 : validW l = 0 := by
    unfold renK at hw; split at hw
    · assumption
    · exact hw
  obtain ⟨a, b, c⟩ := ren_law h1 h2 ho
  have k1 : wordK x l = 0 := by rw [wordK, if_pos h1]; exact h2
  have k2 : wordK (renX x tt) (splL l tt) = 0 := by rw [wordK, if_pos a]; exact b
  exact ⟨k1, k2, by rw [plL, if_pos k2, plL, if_pos k1, c]⟩

set_option maxHeartbeats 2000000 in
set_option maxRecDepth 100000 in
theorem ruleRenames_c (tv lv rv : Value) (x : Rul) (wv : Value) (l : List Int) (tov : Value) (tt : List Int) (w : World) (h : RulR w tv lv rv x) (hw : Ints w wv l) (ht : Ints w tov tt) :
    Calls Try.prog 3 #[.agg #[.int .i64 x.f, tv, lv, rv], wv, tov] w (RV (.bool true) w) := by
  obtain ⟨wA, hwA⟩ : ∃ wA, wA = w.alloc (.cells #[.int .i64 x.f, tv, lv, rv] 24) := ⟨_, rfl⟩
  have hE0 : Ext w wA := by rw [hwA]; exact Ext.alloc _ _
  have k0 : ∀ W, Ext wA W → W.cell? ⟨w.heap.size, 0, none⟩ = some (.int .i64 x.f) := by rw [hwA]; exact kept_alloc w _ _ rfl
  have k1 : ∀ W, Ext wA W → W.cell? ⟨w.heap.size, 1, none⟩ = some tv := by rw [hwA]; exact kept_alloc w _ _ rfl
  have k2 : ∀ W, Ext wA W → W.cell? ⟨w.heap.size, 2, none⟩ = some lv := by rw [hwA]; exact kept_alloc w _ _ rfl
  have k3 : ∀ W, Ext wA W → W.cell? ⟨w.heap.size, 3, none⟩ = some rv := by rw [hwA]; exact kept_alloc w _ _ rfl
  have H0 : Ext wA wA := Ext.refl _
  have HR := Lib.hid (h.ext hE0)
  have HLG := Lib.hid (Long_c tv lv rv x wA (h.ext hE0))
  have HI := Lib.hid (hw.ext hE0)
  have HLA := Lib.hid (fun W (hW : Ext wA W) => large_c wv l W (HI.out.ext hW))
  obtain ⟨aw, cw, rfl, _⟩ := hw.open_
  have hb2 : decide (100 < l.length) = false → l.length ≤ 100 := fun h => by simpa using h
  have HB2 := Lib.hid hb2; clear hb2
  have HTI := Lib.hid (ht.ext hE0)
  have HLT := Lib.hid (fun W (hW : Ext wA W) => large_c tov tt W (HTI.out.ext hW))
  obtain ⟨ao, co, rfl, _⟩ := ht.open_
  clear ht
  generalize decide (100 < tt.length) = b3 at *
  have HW := Lib.hid hwA; clear hwA h hw
  generalize hb1 : longR x = b1 at *
  have HB := Lib.hid hb1; clear hb1
  generalize decide (100 < l.length) = b2 at *
  cases b1
  · cases b2
    · have hll := HB2.out rfl
      go_enter Try.func3, Try.ntmps3
      go_wp2_with fail
      rw [← HW.out]
      refine HLG.out.mono ?_; rintro e w1 ⟨rfl, hx1⟩
      go_wp2_with fail
      refine (HLA.out w1 hx1).mono ?_; rintro e w2 ⟨rfl, hy2⟩
      have hx2 := hx1.trans hy2
      clear hx1 hy2
      clear HLA HLG HB2
      go_wp2_with fail
      refine (HLT.out w2 hx2).mono ?_; rintro e w2b ⟨rfl, hy2⟩
      replace hx2 := hx2.trans hy2
      clear hy2 HLT
      generalize w2b = w2 at *
      cases b3
      · obtain ⟨y, hy⟩ : ∃ y, renX x tt = y := ⟨_, rfl⟩
        obtain ⟨KR, hkr⟩ : ∃ K, renK (validR x) tt = K := ⟨_, rfl⟩
        obtain ⟨S, hS⟩ : ∃ B, splL l tt = B := ⟨_, rfl⟩
        obtain ⟨KS, hks⟩ : ∃ K, renK (validW l) tt = K := ⟨_, rfl⟩
        have HM1 := Lib.hid (fun W (hW : Ext wA W) => Rename_c _ _ _ _ x tt W (HR.out.ext hW) (HTI.out.ext hW) HB.out)
        have HM2 := Lib.hid (fun W (hW : Ext wA W) => rRename_c _ _ _ _ x tt W (HR.out.ext hW) (HTI.out.ext hW) HB.out)
        have HB1 := Lib.hid (fun W (hW : Ext wA W) => Spell_c _ _ l tt W (HI.out.ext hW) (HTI.out.ext hW) (by omega))
        have HB2 := Lib.hid (fun W (hW : Ext wA W) => rSpell_c _ _ l tt W (HI.out.ext hW) (HTI.out.ext hW) (by omega))
        have HLW := Lib.hid (ren_word (x := x) (l := l) (tt := tt))
        rw [hy, hkr] at HM1 HM2
        rw [hS, hks] at HB1 HB2
        rw [hkr, hks, hy, hS] at HLW
        have HP1 := Lib.hid (fun W (hW : Ext wA W) => Places_c _ _ _ _ x l W (HR.out.ext hW) (HI.out.ext hW))
        generalize plK x l = K1 at *
        generalize plL x l = P1 at *
        clear hy hkr hS hks HTI
        go_wp2_with fail
        refine (HM1.out w2 hx2).mono ?_; rintro e w3_ ⟨tv3, lv3, rv3, rfl, hr3, hz3⟩
        obtain ⟨st3, ct3, rfl, _⟩ := hr3.t.open_
        obtain ⟨sl3, cl3, rfl, _⟩ := hr3.l.open_
        obtain ⟨sr3, cr3, rfl, _⟩ := hr3.r.open_
        have HR3_ := Lib.hid (hr3.ext (Ext.alloc w3_ (.cells #[.int .i64 y.f, .slice st3 y.t.length ct3, .slice sl3 y.l.length cl3, .slice sr3 y.r.length cr3] 24)))
        obtain ⟨g3, hg3⟩ : ∃ g, g = w3_.heap.size := ⟨_, rfl⟩
        have q30 : ∀ W, Ext (w3_.alloc (.cells #[.int .i64 y.f, .slice st3 y.t.length ct3, .slice sl3 y.l.length cl3, .slice sr3 y.r.length cr3] 24)) W → W.cell? ⟨w3_.heap.size, 0, none⟩ = some (.int .i64 y.f) := kept_alloc _ _ _ rfl
        have q31 : ∀ W, Ext (w3_.alloc (.cells #[.int .i64 y.f, .slice st3 y.t.length ct3, .slice sl3 y.l.length cl3, .slice sr3 y.r.length cr3] 24)) W → W.cell? ⟨w3_.heap.size, 1, none⟩ = some (.slice st3 y.t.length ct3) := kept_alloc _ _ _ rfl
        have q32 : ∀ W, Ext (w3_.alloc (.cells #[.int .i64 y.f, .slice st3 y.t.length ct3, .slice sl3 y.l.length cl3, .slice sr3 y.r.length cr3] 24)) W → W.cell? ⟨w3_.heap.size, 2, none⟩ = some (.slice sl3 y.l.length cl3) := kept_alloc _ _ _ rfl
        have q33 : ∀ W, Ext (w3_.alloc (.cells #[.int .i64 y.f, .slice st3 y.t.length ct3, .slice sl3 y.l.length cl3, .slice sr3 y.r.length cr3] 24)) W → W.cell? ⟨w3_.heap.size, 3, none⟩ = some (.slice sr3 y.r.length cr3) := kept_alloc _ _ _ rfl
        have hy3 : Ext w2 (w3_.alloc (.cells #[.int .i64 y.f, .slice st3 y.t.length ct3, .slice sl3 y.l.length cl3, .slice sr3 y.r.length cr3] 24)) := hz3.trans (Ext.alloc _ _)
        clear hr3 hz3
        have hx3 := hx2.trans hy3
        go_wp2_with fail
        rw [← hg3] at q30 q31 q32 q33 ⊢
        clear hg3
        generalize w3_.alloc (.cells #[.int .i64 y.f, .slice st3 y.t.length ct3, .slice sl3 y.l.length cl3, .slice sr3 y.r.length cr3] 24) = w3 at *
        refine (HM2.out w3 hx3).mono ?_; rintro e w4_ ⟨tv4, lv4, rv4, rfl, hr4, hz4⟩
        obtain ⟨st4, ct4, rfl, _⟩ := hr4.t.open_
        obtain ⟨sl4, cl4, rfl, _⟩ := hr4.l.open_
        obtain ⟨sr4, cr4, rfl, _⟩ := hr4.r.open_
        have HR4_ := Lib.hid (hr4.ext (Ext.alloc w4_ (.cells #[.int .i64 y.f, .slice st4 y.t.length ct4, .slice sl4 y.l.length cl4, .slice sr4 y.r.length cr4] 24)))
        obtain ⟨g4, hg4⟩ : ∃ g, g = w4_.heap.size := ⟨_, rfl⟩
        have q40 : ∀ W, Ext (w4_.alloc (.cells #[.int .i64 y.f, .slice st4 y.t.length ct4, .slice sl4 y.l.length cl4, .slice sr4 y.r.length cr4] 24)) W → W.cell? ⟨w4_.heap.size, 0, none⟩ = some (.int .i64 y.f) := kept_alloc _ _ _ rfl
        have q41 : ∀ W, Ext (w4_.alloc (.cells #[.int .i64 y.f, .slice st4 y.t.length ct4, .slice sl4 y.l.length cl4, .slice sr4 y.r.length cr4] 24)) W → W.cell? ⟨w4_.heap.size, 1, none⟩ = some (.slice st4 y.t.length ct4) := kept_alloc _ _ _ rfl
        have q42 : ∀ W, Ext (w4_.alloc (.cells #[.int .i64 y.f, .slice st4 y.t.length ct4, .slice sl4 y.l.length cl4, .slice sr4 y.r.length cr4] 24)) W → W.cell? ⟨w4_.heap.size, 2, none⟩ = some (.slice sl4 y.l.length cl4) := kept_alloc _ _ _ rfl
        have q43 : ∀ W, Ext (w4_.alloc (.cells #[.int .i64 y.f, .slice st4 y.t.length ct4, .slice sl4 y.l.length cl4, .slice sr4 y.r.length cr4] 24)) W → W.cell? ⟨w4_.heap.size, 3, none⟩ = some (.slice sr4 y.r.length cr4) := kept_alloc _ _ _ rfl
        have hy4 : Ext w3 (w4_.alloc (.cells #[.int .i64 y.f, .slice st4 y.t.length ct4, .slice sl4 y.l.length cl4, .slice sr4 y.r.length cr4] 24)) := hz4.trans (Ext.alloc _ _)
        clear hr4 hz4
        have hx4 := hx3.trans hy4
        go_wp2_with fail
        rw [← hg4] at q40 q41 q42 q43 ⊢
        clear hg4
        generalize w4_.alloc (.cells #[.int .i64 y.f, .slice st4 y.t.length ct4, .slice sl4 y.l.length cl4, .slice sr4 y.r.length cr4] 24) = w4 at *
        have HR3 : Hid (RulR w4 _ _ _ y) := Lib.hid (HR3_.out.ext hy4); clear HR3_
        have HR4 := HR4_; clear HR4_
        replace q30 := fun W (hW : Ext w4 W) => q30 W (hy4.trans hW)
        replace q31 := fun W (hW : Ext w4 W) => q31 W (hy4.trans hW)
        replace q32 := fun W (hW : Ext w4 W) => q32 W (hy4.trans hW)
        replace q33 := fun W (hW : Ext w4 W) => q33 W (hy4.trans hW)
        have HX4 := Lib.hid hx4
        clear hy4 hx3 hy3 HM1 HM2
        refine (HB1.out w4 hx4).mono ?_; rintro e w5 ⟨v5, rfl, ho5, hy5⟩
        obtain ⟨a5, c5, rfl, _⟩ := ho5.ints.open_
        have HO5 := Lib.hid ho5.ints; clear ho5
        have hx5 := hx4.trans hy5
        go_wp2_with fail
        refine (HB2.out w5 hx5).mono ?_; rintro e w6 ⟨v6, rfl, ho6, hz6⟩
        have HO6 := Lib.hid ho6.ints; clear ho6
        have hx6 := hx5.trans hz6
        have hy6 := hy5.trans hz6
        go_wp2_with fail
        refine (Same_c _ _ _ _ _ _ y w6 (HR3.out.ext hy6) (HR4.out.ext hy6)).mono ?_; rintro e w7 ⟨rfl, hz7⟩
        have hx7 := hx6.trans hz7
        have hy7 := hy6.trans hz7
        go_wp2_with fail
        refine (sameInts_same _ v6 _ w7 (HO5.out.ext (hz6.trans hz7)) (HO6.out.ext hz7)).mono ?_; rintro e w8 ⟨rfl, n8, hw8⟩
        have hz8 : Ext w7 w8 := by rw [hw8]; exact Ext.drewN _ _
        clear hw8
        have hx8 := hx7.trans hz8
        have hy8 := hy7.trans hz8
        have HI8 := Lib.hid (HO5.out.ext (hz6.trans (hz7.trans hz8)))
        clear HB1 HB2 hx4 hx5 hx6 hx7 hy5 hy6 hy7 hz6 hz7 hz8 HO5 HO6
        go_wp2_with fail
        refine (HP1.out w8 hx8).mono ?_; rintro e w9 ⟨v9, rfl, ho9, hz9⟩
        have HO9 := Lib.hid ho9.ints; clear ho9
        have hx9 := hx8.trans hz9
        have hy9 := hy8.trans hz9
        have HP2 := Lib.hid (Places_c _ _ _ _ y S w9 (HR3.out.ext hy9) (HI8.out.ext hz9))
        generalize plK y S = K2 at *
        generalize plL y S = P2 at *
        go_wp2_with fail
        refine HP2.out.mono ?_; rintro e w10 ⟨v10, rfl, ho10, hz10⟩
        have HO10 := Lib.hid ho10.ints; clear ho10
        have hx10 := hx9.trans hz10
        have hy10 := hy9.trans hz10
        clear HP1 HP2
        by_cases h0 : KR = 0
        · by_cases h1 : KS = 0
          · obtain ⟨p1, p2, p3⟩ := HLW.out h0 h1
            subst h0 h1 p1 p2 p3
            go_wp2_with fail
            refine (sameInts_same v9 v10 _ w10 (HO9.out.ext hz10) HO10.out).mono ?_; rintro e w11 ⟨rfl, n11, hw11⟩
            have hx11 : Ext wA w11 := hx10.trans (by rw [hw11]; exact Ext.drewN _ _)
            clear hw11
            go_wp2_with fail
            refine (known_c _).mono ?_; rintro e wK ⟨rfl, hxK⟩
            go_wp2_with fail
            go_ret
            exact RV.bool rfl (hE0.trans (hx11.trans hxK))
          · have hk : (KS != 0) = true := by simp [h1]
            clear HLW h1
            subst h0
            go_wp2_with fail
            refine (known_c _).mono ?_; rintro e wK ⟨rfl, hxK⟩
            go_wp2_with fail
            go_ret
            exact RV.bool rfl (hE0.trans (hx10.trans hxK))
        · have hk : (KR != 0) = true := by simp [h0]
          clear HLW h0
          go_wp2_with fail
          refine (known_c _).mono ?_; rintro e wK ⟨rfl, hxK⟩
          go_wp2_with fail
          go_ret
          exact RV.bool rfl (hE0.trans (hx10.trans hxK))
      · go_wp2_with fail
        refine (known_c _).mono ?_; rintro e wK ⟨rfl, hxK⟩
        go_wp2_with fail
        go_ret
        exact RV.bool rfl (hE0.trans (hx2.trans hxK))
    · go_enter Try.func3, Try.ntmps3
      go_wp2_with fail
      rw [← HW.out]
      refine HLG.out.mono ?_; rintro e w1 ⟨rfl, hx1⟩
      go_wp2_with fail
      refine (HLA.out w1 hx1).mono ?_; rintro e w2 ⟨rfl, hy2⟩
      have hx2 := hx1.trans hy2
      clear hx1 hy2
      go_wp2_with fail
      refine (known_c _).mono ?_; rintro e w3 ⟨rfl, hx3⟩
      go_wp2_with fail
      go_ret
      exact RV.bool rfl (hE0.trans (hx2.trans hx3))
  · go_enter Try.func3, Try.ntmps3
    go_wp2_with fail
    rw [← HW.out]
    refine HLG.out.mono ?_; rintro e w1 ⟨rfl, hx1⟩
    go_wp2_with fail
    refine (known_c _).mono ?_; rintro e w3 ⟨rfl, hx3⟩
    go_wp2_with fail
    go_ret
    exact RV.bool rfl (hE0.trans (hx1.trans hx3))
end Go.Proofs.Ythmdecgkbjdabaa

