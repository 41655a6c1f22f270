/- Pairs that are given, texts of items: CheckTwo, Text; both packages. -/
import Derived.Test.YtgpggmcjggpmpaaTagE
namespace Go.Proofs.Ytgpggmcjggpmpaa
open Go.RowKit Go.Shelf
set_option linter.unusedVariables false

theorem twoK_a {l : Lex} {a b : List Int} (h : validL l ≠ 0) : twoK l a b = validL l := by rw [twoK, if_neg h]
theorem twoK_b {l : Lex} {a b : List Int} (h : validL l = 0) (h2 : 200 < (a.length : Int) ∨ 200 < (b.length : Int)) : twoK l a b = 3 := by rw [twoK, if_pos h, if_pos h2]
theorem twoK_c {l : Lex} {a b : List Int} (h : validL l = 0) (h2 : ¬ (200 < (a.length : Int) ∨ 200 < (b.length : Int))) (h3 : (areB l a && areB l b) = false) : twoK l a b = 4 := by rw [twoK, if_pos h, if_neg h2, h3]; rfl
theorem twoK_d {l : Lex} {a b : List Int} {c : Bool} (h : validL l = 0) (h2 : ¬ (200 < (a.length : Int) ∨ 200 < (b.length : Int))) (h3 : (areB l a && areB l b) = true) (h4 : decide (a = b ∨ wordsL l a ≠ wordsL l b) = c) : twoK l a b = if c then 7 else 0 := by
  rw [twoK, if_pos h, if_neg h2, if_pos h3]
  cases c <;> simp at h4 <;> simp [h4]
set_option maxHeartbeats 4000000 in
set_option maxRecDepth 100000 in
theorem CheckTwo_c (iv fv av bv : Value) (l : Lex) (a b : List Int) (w : World) (h : LexR w iv fv l) (ha : Ints w av a) (hb : Ints w bv b) : Calls Try.prog 29 #[.agg #[iv, fv], av, bv] w (RV (.int .i64 (twoK l a b)) w) := by
  obtain ⟨wA, hwA⟩ : ∃ wA, wA = w.alloc (.cells #[iv, fv] 25) := ⟨_, rfl⟩
  have hE0 : Ext w wA := by rw [hwA]; exact Ext.alloc _ _
  have k0 : ∀ W, Ext wA W → W.cell? ⟨w.heap.size, 0, none⟩ = some iv := by rw [hwA]; exact kept_alloc w _ _ rfl
  have k1 : ∀ W, Ext wA W → W.cell? ⟨w.heap.size, 1, none⟩ = some fv := by rw [hwA]; exact kept_alloc w _ _ rfl
  have H0 : Ext wA wA := Ext.refl _
  have HR := Lib.hid (h.ext hE0)
  obtain ⟨ai, ci, rfl, hli, hmi, HI⟩ := (h.ext hE0).i.open_
  obtain ⟨af, cf, rfl, hlf, hmf, HF⟩ := Rows.open_ (h.ext hE0).f
  have HA := Lib.hid (ha.ext hE0)
  have HB := Lib.hid (hb.ext hE0)
  obtain ⟨aa, ca, rfl, hla, hma, HAO⟩ := (ha.ext hE0).open_
  obtain ⟨ab, cb, rfl, hlb, hmb, HBO⟩ := (hb.ext hE0).open_
  have HC1 := Lib.hid (fun W (hW : Ext wA W) => Validate_c _ _ l W (HR.out.ext hW))
  have HC2 := Lib.hid (fun W (hW : Ext wA W) => areItems_c _ _ _ l a W (HR.out.ext hW) (HA.out.ext hW))
  have HC3 := Lib.hid (fun W (hW : Ext wA W) => areItems_c _ _ _ l b W (HR.out.ext hW) (HB.out.ext hW))
  have HEQ := Lib.hid (fun W (hW : Ext wA W) => equal_v _ _ a b W (HA.out.ext hW) (HB.out.ext hW))
  have HW := Lib.hid hwA; clear hwA h ha hb
  rcases Nat.lt_or_ge a.length b.length with hab | hab
  all_goals
    by_cases h0 : validL l = 0
    · rw [h0] at HC1
      by_cases h1 : 200 < (a.length : Int) ∨ 200 < (b.length : Int)
      · rw [twoK_b h0 h1]
        have hl := validL_ok h0
        clear h0
        have hd : decide (200 < max (a.length : Int) (b.length : Int)) = true := by simp; omega
        have hm : (200 : Int) < max (a.length : Int) (b.length : Int) := by omega
        clear h1
        go_enter Try.func29, Try.ntmps29
        go_wp2_with fail
        rw [← HW.out]
        refine (HC1.out _ H0).mono ?_; rintro e w1 ⟨rfl, hx1⟩
        go_wp2_with fail
        go_ret
        exact RV.int rfl (hE0.trans hx1)
      · have ha2 : (a.length : Int) ≤ 200 := by omega
        have hb2 : (b.length : Int) ≤ 200 := by omega
        have hl := validL_ok h0
        have hm : ¬ (200 : Int) < max (a.length : Int) (b.length : Int) := by omega
        have hd : decide (200 < max (a.length : Int) (b.length : Int)) = false := by simp; omega
        by_cases h3 : areB l a = true
        · rw [h3] at HC2
          by_cases h4 : areB l b = true
          · rw [h4] at HC3
            have HCW1 := Lib.hid (fun W (hW : Ext wA W) => words_c _ _ _ l a W (HR.out.ext hW) hl (HA.out.ext hW) (areB_iff.1 h3) (by omega))
            have HCW2 := Lib.hid (fun W (hW : Ext wA W) => words_c _ _ _ l b W (HR.out.ext hW) hl (HB.out.ext hW) (areB_iff.1 h4) (by omega))
            have h34 : (areB l a && areB l b) = true := by rw [h3, h4]; rfl
            by_cases h5 : a = b
            · have HK := Lib.hid (twoK_d h0 h1 h34 (decide_eq_true (Or.inl h5)))
              rw [decide_eq_true h5] at HEQ
              rw [HK.out]
              clear h0 h1 h3 h4 h34 h5 hl HCW1 HCW2
              go_enter Try.func29, Try.ntmps29
              go_wp2_with fail
              rw [← HW.out]
              refine (HC1.out _ H0).mono ?_; rintro e w1 ⟨rfl, hx1⟩
              go_wp2_with fail
              refine (HC2.out w1 hx1).mono ?_; rintro e w2 ⟨rfl, hx2⟩
              have hX2 := hx1.trans hx2
              go_wp2_with fail
              refine (HC3.out w2 hX2).mono ?_; rintro e w3 ⟨rfl, hx3⟩
              have hX3 := hX2.trans hx3
              go_wp2_with fail
              have hs1 : ∀ t : Later w3, Ext wA t.w := fun t => hX3.trans t.ext
              refine wp_region_later (by kernel_rfl) (by kernel_rfl) ?_
              repeat (go_big_quiet_step ((first | (go_at_call 59; first | with_reducible exact Later.call (HEQ.out _ (hX3.trans (Later.ext _)))))))
              refine wpQuiet_nil ?_
              intro w5 hw'
              obtain ⟨⟨_, hx5⟩, rfl⟩ := hw'
              clear hs1
              go_wp2_with fail
              go_ret
              exact RV.int rfl (hE0.trans (hX3.trans hx5))
            · generalize hc : decide (a = b ∨ wordsL l a ≠ wordsL l b) = c at *
              have HK := Lib.hid (twoK_d h0 h1 h34 hc)
              have HCE : Hid (decide (wordsL l a = wordsL l b) = !c) := Lib.hid (by rw [← hc]; simp [h5])
              rw [decide_eq_false h5] at HEQ
              have HE2 := Lib.hid (fun W va vb (ha : Ints W va (wordsL l a)) (hb : Ints W vb (wordsL l b)) => equal_v va vb _ _ W ha hb)
              rw [HCE.out] at HE2
              rw [HK.out]
              clear h0 h1 h3 h4 h34 h5 hl hc HCE
              generalize wordsL l a = wa at *
              generalize wordsL l b = wb at *
              cases c
              all_goals
                try simp only [Bool.false_eq_true, if_false, if_true]
                go_enter Try.func29, Try.ntmps29
                go_wp2_with fail
                rw [← HW.out]
                refine (HC1.out _ H0).mono ?_; rintro e w1 ⟨rfl, hx1⟩
                go_wp2_with fail
                refine (HC2.out w1 hx1).mono ?_; rintro e w2 ⟨rfl, hx2⟩
                have hX2 := hx1.trans hx2
                go_wp2_with fail
                refine (HC3.out w2 hX2).mono ?_; rintro e w3 ⟨rfl, hx3⟩
                have hX3 := hX2.trans hx3
                go_wp2_with fail
                refine wp_region_peek (Ext wA) (fun _ => True) [] [.look 0, .look 1, .go 2, .look 3, .look 4, .look 5, .look 7, .look 8, .go 6, .go 9, .go 10, .look 11, .look 12, .look 13] (by kernel_rfl) (by kernel_rfl) (by intro c a d v w h; cases d <;> exact h) ?_
                have hX3d : Ext wA { w3 with drawn := w3.drawn + 1 } := hX3.trans (drawn_ext w3)
                have hs : ∀ t : InC (Ext wA), Ext wA t.w := fun t => t.h
                generalize { w3 with drawn := w3.drawn + 1 } = W3 at *
                iterate 2 (refine wpPeek_look rfl ‹_› (fun K hK => ?_); go_simp; first | (refine hK _ ?_; clear hK K) | (refine ⟨_, fun _ => rfl, hK _ ?_⟩; clear hK K))
                refine wpPeek_go rfl rfl (fun K hK => ?_)
                go_wp2_with fail
                refine (HEQ.out W3 hX3d).mono ?_; rintro e W4 ⟨rfl, hx4⟩
                go_wp2_with fail
                refine ⟨KeepE.of (fun h => h.trans hx4) (fun _ => trivial), ?_⟩
                have hX4 : Ext wA W4 := hX3d.trans hx4
                iterate 5 (refine wpPeek_look rfl ‹_› (fun K hK => ?_); go_simp; first | (refine hK _ ?_; clear hK K) | (refine ⟨_, fun _ => rfl, hK _ ?_⟩; clear hK K))
                clear hs
                refine wpPeek_go rfl rfl (fun K hK => ?_)
                go_wp2_with fail
                refine (HCW1.out W4 hX4).mono ?_; rintro e W5 ⟨v1, rfl, ho1, hx5⟩
                have hi1 := ho1.ints
                clear ho1
                go_wp2_with fail
                refine ⟨KeepE.of (fun h => h.trans hx5) (fun _ => trivial), ?_⟩
                refine wpPeek_go rfl rfl (fun K hK => ?_)
                go_wp2_with fail
                refine (HCW2.out W5 (hX4.trans hx5)).mono ?_; rintro e W6 ⟨v2, rfl, ho2, hx6⟩
                have hi2 := ho2.ints
                have hi3 := hi1.ext hx6
                clear ho2 hi1
                go_wp2_with fail
                refine ⟨KeepE.of (fun h => h.trans hx6) (fun _ => trivial), ?_⟩
                refine wpPeek_go rfl rfl (fun K hK => ?_)
                go_wp2_with fail
                refine (HE2.out W6 _ _ hi3 hi2).mono ?_; rintro e W7 ⟨rfl, hx7⟩
                go_wp2_with fail
                refine ⟨KeepE.of (fun h => h.trans hx7) (fun _ => trivial), ?_⟩
                have hd7 := hX4.trans (hx5.trans (hx6.trans hx7))
                have hs : ∀ t : InC (Ext wA), Ext wA t.w := fun t => t.h
                iterate 3 (refine wpPeek_look rfl ‹_› (fun K hK => ?_); go_simp; first | (refine hK _ ?_; clear hK K) | (refine ⟨_, fun _ => rfl, hK _ ?_⟩; clear hK K))
                refine wpPeek_nil ?_
                clear hs
                go_wp2_with fail
                go_ret
                exact RV.int rfl (hE0.trans hd7)
          · have h4' : areB l b = false := by simpa using h4
            rw [h4'] at HC3
            rw [twoK_c h0 h1 (by rw [h4', Bool.and_false])]
            clear h0 h1 h3 h4 h4' hl
            go_enter Try.func29, Try.ntmps29
            go_wp2_with fail
            rw [← HW.out]
            refine (HC1.out _ H0).mono ?_; rintro e w1 ⟨rfl, hx1⟩
            go_wp2_with fail
            refine (HC2.out w1 hx1).mono ?_; rintro e w2 ⟨rfl, hx2⟩
            have hX2 := hx1.trans hx2
            go_wp2_with fail
            refine (HC3.out w2 hX2).mono ?_; rintro e w3 ⟨rfl, hx3⟩
            have hX3 := hX2.trans hx3
            go_wp2_with fail
            go_ret
            exact RV.int rfl (hE0.trans hX3)
        · have h3' : areB l a = false := by simpa using h3
          rw [h3'] at HC2
          rw [twoK_c h0 h1 (by rw [h3', Bool.false_and])]
          clear h0 h1 h3 h3' hl
          go_enter Try.func29, Try.ntmps29
          go_wp2_with fail
          rw [← HW.out]
          refine (HC1.out _ H0).mono ?_; rintro e w1 ⟨rfl, hx1⟩
          go_wp2_with fail
          refine (HC2.out w1 hx1).mono ?_; rintro e w2 ⟨rfl, hx2⟩
          have hX2 := hx1.trans hx2
          go_wp2_with fail
          go_ret
          exact RV.int rfl (hE0.trans hX2)
    · rw [twoK_a h0]
      generalize validL l = k at *
      have hk : (k != 0) = true := by simpa using h0
      clear h0
      go_enter Try.func29, Try.ntmps29
      go_wp2_with fail
      rw [← HW.out]
      refine (HC1.out _ H0).mono ?_; rintro e w1 ⟨rfl, hx1⟩
      go_wp2_with fail
      go_ret
      exact RV.int rfl (hE0.trans hx1)

set_option maxHeartbeats 4000000 in
set_option maxRecDepth 100000 in
theorem rCheckTwo_c (iv fv av bv : Value) (l : Lex) (a b : List Int) (w : World) (h : LexR w iv fv l) (ha : Ints w av a) (hb : Ints w bv b) : Calls Try.prog 33 #[.agg #[iv, fv], av, bv] w (RV (.int .i64 (twoK l a b)) w) := by
  obtain ⟨wA, hwA⟩ : ∃ wA, wA = w.alloc (.cells #[iv, fv] 25) := ⟨_, rfl⟩
  have hE0 : Ext w wA := by rw [hwA]; exact Ext.alloc _ _
  have k0 : ∀ W, Ext wA W → W.cell? ⟨w.heap.size, 0, none⟩ = some iv := by rw [hwA]; exact kept_alloc w _ _ rfl
  have k1 : ∀ W, Ext wA W → W.cell? ⟨w.heap.size, 1, none⟩ = some fv := by rw [hwA]; exact kept_alloc w _ _ rfl
  have H0 : Ext wA wA := Ext.refl _
  have HR := Lib.hid (h.ext hE0)
  obtain ⟨ai, ci, rfl, hli, hmi, HI⟩ := (h.ext hE0).i.open_
  obtain ⟨af, cf, rfl, hlf, hmf, HF⟩ := Rows.open_ (h.ext hE0).f
  have HA := Lib.hid (ha.ext hE0)
  have HB := Lib.hid (hb.ext hE0)
  obtain ⟨aa, ca, rfl, hla, hma, HAO⟩ := (ha.ext hE0).open_
  obtain ⟨ab, cb, rfl, hlb, hmb, HBO⟩ := (hb.ext hE0).open_
  have HC1 := Lib.hid (fun W (hW : Ext wA W) => rValidate_c _ _ l W (HR.out.ext hW))
  have HC2 := Lib.hid (fun W (hW : Ext wA W) => items_c _ _ _ l a W (HR.out.ext hW) (HA.out.ext hW))
  have HC3 := Lib.hid (fun W (hW : Ext wA W) => items_c _ _ _ l b W (HR.out.ext hW) (HB.out.ext hW))
  have HEQ := Lib.hid (fun W (hW : Ext wA W) => same_v _ _ a b W (HA.out.ext hW) (HB.out.ext hW))
  have HW := Lib.hid hwA; clear hwA h ha hb
  by_cases h0 : validL l = 0
  · rw [h0] at HC1
    by_cases h1 : 200 < (a.length : Int) ∨ 200 < (b.length : Int)
    · rw [twoK_b h0 h1]
      have hl := validL_ok h0
      clear h0
      by_cases h2 : 200 < (a.length : Int)
      · have hd : decide (200 < (a.length : Int)) = true := by simp; omega
        clear h1
        go_enter Try.func33, Try.ntmps33
        go_wp2_with fail
        rw [← HW.out]
        refine (HC1.out _ H0).mono ?_; rintro e w1 ⟨rfl, hx1⟩
        go_wp2_with fail
        go_ret
        exact RV.int rfl (hE0.trans hx1)
      · have hd : decide (200 < (a.length : Int)) = false := by simp; omega
        have hd2 : decide (200 < (b.length : Int)) = true := by simp; omega
        clear h1
        go_enter Try.func33, Try.ntmps33
        go_wp2_with fail
        rw [← HW.out]
        refine (HC1.out _ H0).mono ?_; rintro e w1 ⟨rfl, hx1⟩
        go_wp2_with fail
        go_ret
        exact RV.int rfl (hE0.trans hx1)
    · have ha2 : (a.length : Int) ≤ 200 := by omega
      have hb2 : (b.length : Int) ≤ 200 := by omega
      have hl := validL_ok h0
      have hd : decide (200 < (a.length : Int)) = false := by simp; omega
      have hd2 : decide (200 < (b.length : Int)) = false := by simp; omega
      by_cases h3 : areB l a = true
      · rw [h3] at HC2
        by_cases h4 : areB l b = true
        · rw [h4] at HC3
          have HCW1 := Lib.hid (fun W (hW : Ext wA W) => rwords_c _ _ _ l a W (HR.out.ext hW) hl (HA.out.ext hW) (areB_iff.1 h3) (by omega))
          have HCW2 := Lib.hid (fun W (hW : Ext wA W) => rwords_c _ _ _ l b W (HR.out.ext hW) hl (HB.out.ext hW) (areB_iff.1 h4) (by omega))
          have h34 : (areB l a && areB l b) = true := by rw [h3, h4]; rfl
          by_cases h5 : a = b
          · have HK := Lib.hid (twoK_d h0 h1 h34 (decide_eq_true (Or.inl h5)))
            rw [decide_eq_true h5] at HEQ
            rw [HK.out]
            clear h0 h1 h3 h4 h34 h5 hl HCW1 HCW2
            go_enter Try.func33, Try.ntmps33
            go_wp2_with fail
            rw [← HW.out]
            refine (HC1.out _ H0).mono ?_; rintro e w1 ⟨rfl, hx1⟩
            go_wp2_with fail
            refine (HC2.out w1 hx1).mono ?_; rintro e w2 ⟨rfl, hx2⟩
            have hX2 := hx1.trans hx2
            go_wp2_with fail
            refine (HC3.out w2 hX2).mono ?_; rintro e w3 ⟨rfl, hx3⟩
            have hX3 := hX2.trans hx3
            go_wp2_with fail
            have hs1 : ∀ t : Later w3, Ext wA t.w := fun t => hX3.trans t.ext
            refine wp_region_later (by kernel_rfl) (by kernel_rfl) ?_
            repeat (go_big_quiet_step ((first | (go_at_call 28; first | with_reducible exact Later.call (HEQ.out _ (hX3.trans (Later.ext _)))))))
            refine wpQuiet_nil ?_
            intro w5 hw'
            obtain ⟨⟨_, hx5⟩, rfl⟩ := hw'
            clear hs1
            go_wp2_with fail
            go_ret
            exact RV.int rfl (hE0.trans (hX3.trans hx5))
          · generalize hc : decide (a = b ∨ wordsL l a ≠ wordsL l b) = c at *
            have HK := Lib.hid (twoK_d h0 h1 h34 hc)
            have HCE : Hid (decide (wordsL l a = wordsL l b) = !c) := Lib.hid (by rw [← hc]; simp [h5])
            rw [decide_eq_false h5] at HEQ
            have HE2 := Lib.hid (fun W va vb (ha : Ints W va (wordsL l a)) (hb : Ints W vb (wordsL l b)) => same_v va vb _ _ W ha hb)
            rw [HCE.out] at HE2
            rw [HK.out]
            clear h0 h1 h3 h4 h34 h5 hl hc HCE
            generalize wordsL l a = wa at *
            generalize wordsL l b = wb at *
            cases c
            all_goals
              try simp only [Bool.false_eq_true, if_false, if_true]
              go_enter Try.func33, Try.ntmps33
              go_wp2_with fail
              rw [← HW.out]
              refine (HC1.out _ H0).mono ?_; rintro e w1 ⟨rfl, hx1⟩
              go_wp2_with fail
              refine (HC2.out w1 hx1).mono ?_; rintro e w2 ⟨rfl, hx2⟩
              have hX2 := hx1.trans hx2
              go_wp2_with fail
              refine (HC3.out w2 hX2).mono ?_; rintro e w3 ⟨rfl, hx3⟩
              have hX3 := hX2.trans hx3
              go_wp2_with fail
              refine wp_region_peek (Ext wA) (fun _ => True) [] [.look 0, .look 1, .go 2, .look 3, .look 4, .look 5, .look 7, .look 8, .go 6, .go 9, .go 10, .look 11, .look 12] (by kernel_rfl) (by kernel_rfl) (by intro c a d v w h; cases d <;> exact h) ?_
              have hX3d : Ext wA { w3 with drawn := w3.drawn + 1 } := hX3.trans (drawn_ext w3)
              have hs : ∀ t : InC (Ext wA), Ext wA t.w := fun t => t.h
              generalize { w3 with drawn := w3.drawn + 1 } = W3 at *
              iterate 2 (refine wpPeek_look rfl ‹_› (fun K hK => ?_); go_simp; first | (refine hK _ ?_; clear hK K) | (refine ⟨_, fun _ => rfl, hK _ ?_⟩; clear hK K))
              refine wpPeek_go rfl rfl (fun K hK => ?_)
              go_wp2_with fail
              refine (HEQ.out W3 hX3d).mono ?_; rintro e W4 ⟨rfl, hx4⟩
              go_wp2_with fail
              refine ⟨KeepE.of (fun h => h.trans hx4) (fun _ => trivial), ?_⟩
              have hX4 : Ext wA W4 := hX3d.trans hx4
              iterate 5 (refine wpPeek_look rfl ‹_› (fun K hK => ?_); go_simp; first | (refine hK _ ?_; clear hK K) | (refine ⟨_, fun _ => rfl, hK _ ?_⟩; clear hK K))
              clear hs
              refine wpPeek_go rfl rfl (fun K hK => ?_)
              go_wp2_with fail
              refine (HCW1.out W4 hX4).mono ?_; rintro e W5 ⟨v1, rfl, ho1, hx5⟩
              have hi1 := ho1.ints
              clear ho1
              go_wp2_with fail
              refine ⟨KeepE.of (fun h => h.trans hx5) (fun _ => trivial), ?_⟩
              refine wpPeek_go rfl rfl (fun K hK => ?_)
              go_wp2_with fail
              refine (HCW2.out W5 (hX4.trans hx5)).mono ?_; rintro e W6 ⟨v2, rfl, ho2, hx6⟩
              have hi2 := ho2.ints
              have hi3 := hi1.ext hx6
              clear ho2 hi1
              go_wp2_with fail
              refine ⟨KeepE.of (fun h => h.trans hx6) (fun _ => trivial), ?_⟩
              refine wpPeek_go rfl rfl (fun K hK => ?_)
              go_wp2_with fail
              refine (HE2.out W6 _ _ hi3 hi2).mono ?_; rintro e W7 ⟨rfl, hx7⟩
              go_wp2_with fail
              refine ⟨KeepE.of (fun h => h.trans hx7) (fun _ => trivial), ?_⟩
              have hd7 := hX4.trans (hx5.trans (hx6.trans hx7))
              have hs : ∀ t : InC (Ext wA), Ext wA t.w := fun t => t.h
              iterate 2 (refine wpPeek_look rfl ‹_› (fun K hK => ?_); go_simp; first | (refine hK _ ?_; clear hK K) | (refine ⟨_, fun _ => rfl, hK _ ?_⟩; clear hK K))
              refine wpPeek_nil ?_
              clear hs
              go_wp2_with fail
              go_ret
              exact RV.int rfl (hE0.trans hd7)
        · have h4' : areB l b = false := by simpa using h4
          rw [h4'] at HC3
          rw [twoK_c h0 h1 (by rw [h4', Bool.and_false])]
          clear h0 h1 h3 h4 h4' hl
          go_enter Try.func33, Try.ntmps33
          go_wp2_with fail
          rw [← HW.out]
          refine (HC1.out _ H0).mono ?_; rintro e w1 ⟨rfl, hx1⟩
          go_wp2_with fail
          refine (HC2.out w1 hx1).mono ?_; rintro e w2 ⟨rfl, hx2⟩
          have hX2 := hx1.trans hx2
          go_wp2_with fail
          refine (HC3.out w2 hX2).mono ?_; rintro e w3 ⟨rfl, hx3⟩
          have hX3 := hX2.trans hx3
          go_wp2_with fail
          go_ret
          exact RV.int rfl (hE0.trans hX3)
      · have h3' : areB l a = false := by simpa using h3
        rw [h3'] at HC2
        rw [twoK_c h0 h1 (by rw [h3', Bool.false_and])]
        clear h0 h1 h3 h3' hl
        go_enter Try.func33, Try.ntmps33
        go_wp2_with fail
        rw [← HW.out]
        refine (HC1.out _ H0).mono ?_; rintro e w1 ⟨rfl, hx1⟩
        go_wp2_with fail
        refine (HC2.out w1 hx1).mono ?_; rintro e w2 ⟨rfl, hx2⟩
        have hX2 := hx1.trans hx2
        go_wp2_with fail
        go_ret
        exact RV.int rfl (hE0.trans hX2)
  · rw [twoK_a h0]
    generalize validL l = k at *
    have hk : (k != 0) = true := by simpa using h0
    clear h0
    go_enter Try.func33, Try.ntmps33
    go_wp2_with fail
    rw [← HW.out]
    refine (HC1.out _ H0).mono ?_; rintro e w1 ⟨rfl, hx1⟩
    go_wp2_with fail
    go_ret
    exact RV.int rfl (hE0.trans hx1)

/-! ## texts of items -/
def textE (l : Lex) (s : List Int) : Int := if validL l = 0 then (if areB l s then (if 12 < ((wordsL l s).length : Int) then 3 else 0) else 4) else validL l
def textL (l : Lex) (s : List Int) : List Int := if textE l s = 0 then wordsL l s else []
theorem textE_a {l : Lex} {s : List Int} (h : validL l ≠ 0) : textE l s = validL l ∧ textL l s = [] := by
  have e : textE l s = validL l := by rw [textE, if_neg h]
  exact ⟨e, by rw [textL, if_neg (by rw [e]; exact h)]⟩
theorem textE_b {l : Lex} {s : List Int} (h : validL l = 0) (h1 : areB l s = false) : textE l s = 4 ∧ textL l s = [] := by
  have e : textE l s = 4 := by rw [textE, if_pos h, h1]; rfl
  exact ⟨e, by rw [textL, if_neg (by rw [e]; omega)]⟩
theorem textE_c {l : Lex} {s : List Int} (h : validL l = 0) (h1 : areB l s = true) (h2 : 12 < ((wordsL l s).length : Int)) : textE l s = 3 ∧ textL l s = [] := by
  have e : textE l s = 3 := by rw [textE, if_pos h, if_pos h1, if_pos h2]
  exact ⟨e, by rw [textL, if_neg (by rw [e]; omega)]⟩
theorem textE_d {l : Lex} {s : List Int} (h : validL l = 0) (h1 : areB l s = true) (h2 : ¬ 12 < ((wordsL l s).length : Int)) : textE l s = 0 ∧ textL l s = wordsL l s := by
  have e : textE l s = 0 := by rw [textE, if_pos h, if_pos h1, if_neg h2]
  exact ⟨e, by rw [textL, if_pos e]⟩
set_option maxHeartbeats 1000000 in
theorem Text_c (iv fv sv : Value) (l : Lex) (s : List Int) (w : World) (h : LexR w iv fv l) (hs : Ints w sv s) (hsl : s.length ≤ 1000) : Calls Try.prog 30 #[.agg #[iv, fv], sv] w (R2 (isInts (textL l s)) (textE l s) w) := by
  obtain ⟨wA, hwA⟩ : ∃ wA, wA = w.alloc (.cells #[iv, fv] 25) := ⟨_, rfl⟩
  have hE0 : Ext w wA := by rw [hwA]; exact Ext.alloc _ _
  have k0 : ∀ W, Ext wA W → W.cell? ⟨w.heap.size, 0, none⟩ = some iv := by rw [hwA]; exact kept_alloc w _ _ rfl
  have k1 : ∀ W, Ext wA W → W.cell? ⟨w.heap.size, 1, none⟩ = some fv := by rw [hwA]; exact kept_alloc w _ _ rfl
  have H0 : Ext wA wA := Ext.refl _
  have HR := Lib.hid (h.ext hE0)
  obtain ⟨ai, ci, rfl, hli, hmi, HI⟩ := (h.ext hE0).i.open_
  obtain ⟨af, cf, rfl, hlf, hmf, HF⟩ := Rows.open_ (h.ext hE0).f
  have HS := Lib.hid (hs.ext hE0)
  obtain ⟨as_, cs, rfl, hls, hms, HSO⟩ := (hs.ext hE0).open_
  have HC1 := Lib.hid (fun W (hW : Ext wA W) => Validate_c _ _ l W (HR.out.ext hW))
  have HC2 := Lib.hid (fun W (hW : Ext wA W) => areItems_c _ _ _ l s W (HR.out.ext hW) (HS.out.ext hW))
  have HW := Lib.hid hwA; clear hwA h hs
  by_cases h0 : validL l = 0
  · rw [h0] at HC1
    by_cases h1 : areB l s = true
    · rw [h1] at HC2
      have hl := validL_ok h0
      have HCW := Lib.hid (fun W (hW : Ext wA W) => words_c _ _ _ l s W (HR.out.ext hW) hl (HS.out.ext hW) (areB_iff.1 h1) (by omega))
      have hmx := words_max hl (areB_iff.1 h1)
      by_cases h2 : 12 < ((wordsL l s).length : Int)
      · obtain ⟨e1, e2⟩ := textE_c h0 h1 h2
        rw [e1, e2]
        clear h0 h1 e1 e2 hl
        generalize wordsL l s = ws at *
        go_enter Try.func30, Try.ntmps30
        go_wp2_with fail
        rw [← HW.out]
        refine (HC1.out _ H0).mono ?_; rintro e w1 ⟨rfl, hx1⟩
        go_wp2_with fail
        refine (HC2.out w1 hx1).mono ?_; rintro e w2 ⟨rfl, hx2⟩
        have hX2 := hx1.trans hx2
        go_wp2_with fail
        refine (HCW.out w2 hX2).mono ?_; rintro e w3 ⟨v3, rfl, ho3, hx3⟩
        have hi3 := ho3.ints
        clear ho3
        obtain ⟨a3, c3, rfl, _⟩ := hi3.open_
        go_wp2_with fail
        go_ret2
        exact R2.mk (ints_nil_c _) (hE0.trans (hX2.trans hx3))
      · obtain ⟨e1, e2⟩ := textE_d h0 h1 h2
        have h2I : ((wordsL l s).length : Int) ≤ 12 := by omega
        rw [e1, e2]
        clear h0 h1 e1 e2 hl
        generalize wordsL l s = ws at *
        go_enter Try.func30, Try.ntmps30
        go_wp2_with fail
        rw [← HW.out]
        refine (HC1.out _ H0).mono ?_; rintro e w1 ⟨rfl, hx1⟩
        go_wp2_with fail
        refine (HC2.out w1 hx1).mono ?_; rintro e w2 ⟨rfl, hx2⟩
        have hX2 := hx1.trans hx2
        go_wp2_with fail
        refine (HCW.out w2 hX2).mono ?_; rintro e w3 ⟨v3, rfl, ho3, hx3⟩
        have hi3 := ho3.ints
        clear ho3
        obtain ⟨a3, c3, rfl, _⟩ := hi3.open_
        have HI3 := Lib.hid hi3; clear hi3
        go_wp2_with fail
        go_ret2
        exact R2.mk HI3.out (hE0.trans (hX2.trans hx3))
    · have h1' : areB l s = false := by simpa using h1
      rw [h1'] at HC2
      obtain ⟨e1, e2⟩ := textE_b h0 h1'
      rw [e1, e2]
      clear h0 h1 h1' e1 e2
      go_enter Try.func30, Try.ntmps30
      go_wp2_with fail
      rw [← HW.out]
      refine (HC1.out _ H0).mono ?_; rintro e w1 ⟨rfl, hx1⟩
      go_wp2_with fail
      refine (HC2.out w1 hx1).mono ?_; rintro e w2 ⟨rfl, hx2⟩
      have hX2 := hx1.trans hx2
      go_wp2_with fail
      go_ret2
      exact R2.mk (ints_nil_c _) (hE0.trans hX2)
  · obtain ⟨e1, e2⟩ := textE_a (s := s) h0
    rw [e1, e2]
    generalize validL l = k at *
    have hk : (k != 0) = true := by simpa using h0
    clear h0 e1 e2
    go_enter Try.func30, Try.ntmps30
    go_wp2_with fail
    rw [← HW.out]
    refine (HC1.out _ H0).mono ?_; rintro e w1 ⟨rfl, hx1⟩
    go_wp2_with fail
    go_ret2
    exact R2.mk (ints_nil_c _) (hE0.trans hx1)
set_option maxHeartbeats 1000000 in
theorem rText_c (iv fv sv : Value) (l : Lex) (s : List Int) (w : World) (h : LexR w iv fv l) (hs : Ints w sv s) (hsl : s.length ≤ 1000) : Calls Try.prog 52 #[.agg #[iv, fv], sv] w (R2 (isInts (textL l s)) (textE l s) w) := by
  obtain ⟨wA, hwA⟩ : ∃ wA, wA = w.alloc (.cells #[iv, fv] 25) := ⟨_, rfl⟩
  have hE0 : Ext w wA := by rw [hwA]; exact Ext.alloc _ _
  have k0 : ∀ W, Ext wA W → W.cell? ⟨w.heap.size, 0, none⟩ = some iv := by rw [hwA]; exact kept_alloc w _ _ rfl
  have k1 : ∀ W, Ext wA W → W.cell? ⟨w.heap.size, 1, none⟩ = some fv := by rw [hwA]; exact kept_alloc w _ _ rfl
  have H0 : Ext wA wA := Ext.refl _
  have HR := Lib.hid (h.ext hE0)
  obtain ⟨ai, ci, rfl, hli, hmi, HI⟩ := (h.ext hE0).i.open_
  obtain ⟨af, cf, rfl, hlf, hmf, HF⟩ := Rows.open_ (h.ext hE0).f
  have HS := Lib.hid (hs.ext hE0)
  obtain ⟨as_, cs, rfl, hls, hms, HSO⟩ := (hs.ext hE0).open_
  have HC1 := Lib.hid (fun W (hW : Ext wA W) => rValidate_c _ _ l W (HR.out.ext hW))
  have HC2 := Lib.hid (fun W (hW : Ext wA W) => items_c _ _ _ l s W (HR.out.ext hW) (HS.out.ext hW))
  have HW := Lib.hid hwA; clear hwA h hs
  by_cases h0 : validL l = 0
  · rw [h0] at HC1
    by_cases h1 : areB l s = true
    · rw [h1] at HC2
      have hl := validL_ok h0
      have HCW := Lib.hid (fun W (hW : Ext wA W) => rwords_c _ _ _ l s W (HR.out.ext hW) hl (HS.out.ext hW) (areB_iff.1 h1) (by omega))
      have hmx := words_max hl (areB_iff.1 h1)
      by_cases h2 : 12 < ((wordsL l s).length : Int)
      · obtain ⟨e1, e2⟩ := textE_c h0 h1 h2
        rw [e1, e2]
        clear h0 h1 e1 e2 hl
        generalize wordsL l s = ws at *
        go_enter Try.func52, Try.ntmps52
        go_wp2_with fail
        rw [← HW.out]
        refine (HC1.out _ H0).mono ?_; rintro e w1 ⟨rfl, hx1⟩
        go_wp2_with fail
        refine (HC2.out w1 hx1).mono ?_; rintro e w2 ⟨rfl, hx2⟩
        have hX2 := hx1.trans hx2
        go_wp2_with fail
        refine (HCW.out w2 hX2).mono ?_; rintro e w3 ⟨v3, rfl, ho3, hx3⟩
        have hi3 := ho3.ints
        clear ho3
        obtain ⟨a3, c3, rfl, _⟩ := hi3.open_
        go_wp2_with fail
        go_ret2
        exact R2.mk (ints_nil_c _) (hE0.trans (hX2.trans hx3))
      · obtain ⟨e1, e2⟩ := textE_d h0 h1 h2
        have h2I : ((wordsL l s).length : Int) ≤ 12 := by omega
        rw [e1, e2]
        clear h0 h1 e1 e2 hl
        generalize wordsL l s = ws at *
        go_enter Try.func52, Try.ntmps52
        go_wp2_with fail
        rw [← HW.out]
        refine (HC1.out _ H0).mono ?_; rintro e w1 ⟨rfl, hx1⟩
        go_wp2_with fail
        refine (HC2.out w1 hx1).mono ?_; rintro e w2 ⟨rfl, hx2⟩
        have hX2 := hx1.trans hx2
        go_wp2_with fail
        refine (HCW.out w2 hX2).mono ?_; rintro e w3 ⟨v3, rfl, ho3, hx3⟩
        have hi3 := ho3.ints
        clear ho3
        obtain ⟨a3, c3, rfl, _⟩ := hi3.open_
        have HI3 := Lib.hid hi3; clear hi3
        go_wp2_with fail
        go_ret2
        exact R2.mk HI3.out (hE0.trans (hX2.trans hx3))
    · have h1' : areB l s = false := by simpa using h1
      rw [h1'] at HC2
      obtain ⟨e1, e2⟩ := textE_b h0 h1'
      rw [e1, e2]
      clear h0 h1 h1' e1 e2
      go_enter Try.func52, Try.ntmps52
      go_wp2_with fail
      rw [← HW.out]
      refine (HC1.out _ H0).mono ?_; rintro e w1 ⟨rfl, hx1⟩
      go_wp2_with fail
      refine (HC2.out w1 hx1).mono ?_; rintro e w2 ⟨rfl, hx2⟩
      have hX2 := hx1.trans hx2
      go_wp2_with fail
      go_ret2
      exact R2.mk (ints_nil_c _) (hE0.trans hX2)
  · obtain ⟨e1, e2⟩ := textE_a (s := s) h0
    rw [e1, e2]
    generalize validL l = k at *
    have hk : (k != 0) = true := by simpa using h0
    clear h0 e1 e2
    go_enter Try.func52, Try.ntmps52
    go_wp2_with fail
    rw [← HW.out]
    refine (HC1.out _ H0).mono ?_; rintro e w1 ⟨rfl, hx1⟩
    go_wp2_with fail
    go_ret2
    exact R2.mk (ints_nil_c _) (hE0.trans hx1)
end Go.Proofs.Ytgpggmcjggpmpaa
