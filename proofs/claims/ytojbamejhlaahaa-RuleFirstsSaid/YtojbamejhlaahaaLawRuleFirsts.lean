/- RuleFirsts: for every input the call returns true. No condition. -/
import Derived.Test.YtojbamejhlaahaaLaw2
import Derived.Test.YtojbamejhlaahaaRulK
namespace Go.Proofs.Ytojbamejhlaahaa
open Go.RowKit Go.Shelf
set_option linter.unusedVariables false
theorem sameInts_same (va vb : Value) (a : List Int) (w : World) (ha : Ints w va a) (hb : Ints w vb a) : Calls Try.prog 22 #[va, vb] w (RQ true w) := by have := sameInts_c va vb a a w ha hb; rwa [sameIntsB_refl] at this
theorem first_true {x : Rul} {l : List Int} (h : firstB x l = true) : plK x l = 0 ∧ plL x l = placesL x l ∧ (placesL x l).length ≠ 0 ∧ ∃ n : Nat, (placesL x l)[0]?.getD 0 = (n : Int) ∧ applyK x l n = 0 ∧ applyL x l n = firstL x l ∧ n ≤ l.length := by
  unfold firstB at h
  split at h
  · rename_i h0
    split at h
    · cases h
    · rename_i hn
      obtain ⟨n, h1, h2, h3⟩ := first_place hn
      have hf := placeB_nat h3
      rw [h2] at h
      have hk : shortK (putL x l n) = 0 := by simpa using h
      refine ⟨by rw [plK, h0], by rw [plL, if_pos h0], hn, n, h1, ?_, ?_, by omega⟩
      · rw [applyK, if_pos h0, h3, Int.toNat_natCast]; exact hk
      · rw [applyL, if_pos h0, h3, Int.toNat_natCast, firstL, if_pos h0, if_neg hn, h2]; rfl
  · cases h

set_option maxHeartbeats 2000000 in
set_option maxRecDepth 100000 in
theorem ruleFirsts_c (tv lv rv : Value) (x : Rul) (wv : Value) (l : List Int) (w : World) (h : RulR w tv lv rv x) (hw : Ints w wv l) :
    Calls Try.prog 10 #[.agg #[.int .i64 x.f, tv, lv, rv], wv] w (RV (.bool true) w) := by
  obtain ⟨wA, hwA⟩ : ∃ wA, wA = w.alloc (.cells #[.int .i64 x.f, tv, lv, rv] 24) := ⟨_, rfl⟩
  have hE0 : Ext w wA := by rw [hwA]; exact Ext.alloc _ _
  have k0 : ∀ W, Ext wA W → W.cell? ⟨w.heap.size, 0, none⟩ = some (.int .i64 x.f) := by rw [hwA]; exact kept_alloc w _ _ rfl
  have k1 : ∀ W, Ext wA W → W.cell? ⟨w.heap.size, 1, none⟩ = some tv := by rw [hwA]; exact kept_alloc w _ _ rfl
  have k2 : ∀ W, Ext wA W → W.cell? ⟨w.heap.size, 2, none⟩ = some lv := by rw [hwA]; exact kept_alloc w _ _ rfl
  have k3 : ∀ W, Ext wA W → W.cell? ⟨w.heap.size, 3, none⟩ = some rv := by rw [hwA]; exact kept_alloc w _ _ rfl
  have H0 : Ext wA wA := Ext.refl _
  have HR := Lib.hid (h.ext hE0)
  have HLG := Lib.hid (Long_c tv lv rv x wA (h.ext hE0))
  have HI := Lib.hid (hw.ext hE0)
  have HLA := Lib.hid (fun W (hW : Ext wA W) => large_c wv l W (HI.out.ext hW))
  obtain ⟨aw, cw, rfl, _⟩ := hw.open_
  have hb2 : decide (100 < l.length) = false → l.length ≤ 100 := fun h => by simpa using h
  have HB2 := Lib.hid hb2; clear hb2
  have HW := Lib.hid hwA; clear hwA h hw
  generalize longR x = b1 at *
  generalize decide (100 < l.length) = b2 at *
  cases b1
  · cases b2
    · have hll := HB2.out rfl
      go_enter Try.func10, Try.ntmps10
      go_wp2_with fail
      rw [← HW.out]
      refine HLG.out.mono ?_; rintro e w1 ⟨rfl, hx1⟩
      go_wp2_with fail
      refine (HLA.out w1 hx1).mono ?_; rintro e w2 ⟨rfl, hy2⟩
      have hx2 := hx1.trans hy2
      clear hx1 hy2
      clear HLA HLG HB2
      go_wp2_with fail
      refine (First_c _ _ _ _ x l w2 (HR.out.ext hx2) (HI.out.ext hx2)).mono ?_; rintro e w3 ⟨v3, rfl, ho, hy3⟩
      have HI3 := Lib.hid ho.ints; clear ho
      have hx3 := hx2.trans hy3
      go_wp2_with fail
      refine (rFirst_c _ _ _ _ x l w3 (HR.out.ext hx3) (HI.out.ext hx3)).mono ?_; rintro e w4 ⟨v4, rfl, ho, hy4⟩
      have HI4 := Lib.hid ho.ints; clear ho
      have hx4 := hx3.trans hy4
      have HFT := Lib.hid (first_true (x := x) (l := l))
      generalize firstK x l = K at *
      generalize hFB : firstB x l = B at *
      generalize firstL x l = L at *
      cases B
      · clear hFB HFT
        go_wp2_with fail
        refine (sameInts_same v3 v4 _ w4 (HI3.out.ext hy4) HI4.out).mono ?_; rintro e w5 ⟨rfl, n5, hw5⟩
        have hy5 : Ext w4 w5 := by rw [hw5]; exact Ext.drewN _ _
        clear hw5
        have hx5 := hx4.trans hy5
        go_wp2_with fail
        refine (Places_c _ _ _ _ x l w5 (HR.out.ext hx5) (HI.out.ext hx5)).mono ?_; rintro e w6 ⟨v6, rfl, ho, hy6⟩
        clear ho
        have hx6 := hx5.trans hy6
        generalize plK x l = K2 at *
        go_wp2_with fail
        refine (known_c _).mono ?_; rintro e wK ⟨rfl, hxK⟩
        go_wp2_with fail
        go_ret
        exact RV.bool rfl (hE0.trans (hx6.trans hxK))
      · obtain ⟨hp0, hp1, hpn, n, hn0, hak, hal, hnl⟩ := HFT.out rfl
        have HN0 := Lib.hid hn0
        have HAP := Lib.hid (fun W (hW : Ext wA W) => Apply_c _ _ _ _ x l (n : Int) W (HR.out.ext hW) (HI.out.ext hW))
        rw [hak, hal] at HAP
        have HP0 := Lib.hid hp0; have HP1 := Lib.hid hp1
        clear hFB HFT hak hal hn0 hp0 hp1
        go_wp2_with fail
        refine (sameInts_same v3 v4 _ w4 (HI3.out.ext hy4) HI4.out).mono ?_; rintro e w5 ⟨rfl, n5, hw5⟩
        have hy5 : Ext w4 w5 := by rw [hw5]; exact Ext.drewN _ _
        clear hw5
        have hx5 := hx4.trans hy5
        go_wp2_with fail
        refine (Places_c _ _ _ _ x l w5 (HR.out.ext hx5) (HI.out.ext hx5)).mono ?_; rw [HP0.out, HP1.out]; rintro e w6 ⟨v6, rfl, ho, hy6⟩
        have hx6 := hx5.trans hy6
        obtain ⟨a6, c6, rfl, _, _, H6⟩ := ho.ints.open_
        clear ho
        obtain ⟨b, o, rfl, hc⟩ := H6.out 0 (by omega)
        rw [HN0.out, Nat.add_zero] at hc
        clear H6
        generalize (placesL x l).length = m at *
        have hmb : ((m : Int) == 0) = false := by simp; omega
        have hm0 : 0 < m := by omega
        go_wp2_with fail
        refine wp_region_peek (Ext w6) (fun _ => True) [] [.look 0, .look 1, .look 2, .look 3, .look 4, .go 5, .look 6, .look 7, .look 8, .look 9, .look 10] (by kernel_rfl) (by kernel_rfl) (by intro c a d v w h; cases d <;> exact h) ?_
        have hd : Ext w6 { w6 with drawn := w6.drawn + 1 } := drawn_ext w6
        have hs : ∀ s : InC (Ext w6), Ext wA s.w := fun s => hx6.trans s.h
        have q0 := fun s : InC (Ext w6) => s.h.keep hc
        have hXd := hx6.trans hd
        generalize { w6 with drawn := w6.drawn + 1 } = W1 at *
        iterate 5 (refine wpPeek_look rfl ‹_› (fun K hK => ?_); go_simp; first | (refine hK _ ?_; clear hK K) | (refine ⟨_, fun _ => rfl, hK _ ?_⟩; clear hK K))
        clear q0
        refine wpPeek_go rfl rfl (fun K hK => ?_)
        go_wp2_with fail
        refine (HAP.out W1 hXd).mono ?_; rintro e W2 ⟨v7, rfl, ho, hy7⟩
        have HI7 := Lib.hid ho.ints; clear ho
        have hx7 := hXd.trans hy7
        go_wp2_with fail
        refine ⟨KeepE.of (fun h => h.trans hy7) (fun _ => trivial), ?_⟩
        have hd7 := hd.trans hy7
        clear hd
        iterate 5 (refine wpPeek_look rfl ‹_› (fun K hK => ?_); go_simp; first | (refine hK _ ?_; clear hK K) | (refine ⟨_, fun _ => rfl, hK _ ?_⟩; clear hK K))
        refine wpPeek_nil ?_
        clear hs
        go_wp2_with fail
        refine (sameInts_same v3 v7 _ _ (HI3.out.ext ((hy4.trans (hy5.trans hy6)).trans hd7)) HI7.out).mono ?_; rintro e wS ⟨rfl, nS, rfl⟩
        go_wp2_with fail
        refine (known_c _).mono ?_; rintro e wK ⟨rfl, hxK⟩
        go_wp2_with fail
        go_ret
        exact RV.bool rfl (hE0.trans (hx7.trans ((Ext.drewN _ _).trans hxK)))
    · go_enter Try.func10, Try.ntmps10
      go_wp2_with fail
      rw [← HW.out]
      refine HLG.out.mono ?_; rintro e w1 ⟨rfl, hx1⟩
      go_wp2_with fail
      refine (HLA.out w1 hx1).mono ?_; rintro e w2 ⟨rfl, hy2⟩
      have hx2 := hx1.trans hy2
      clear hx1 hy2
      go_wp2_with fail
      refine (known_c _).mono ?_; rintro e w3 ⟨rfl, hx3⟩
      go_wp2_with fail
      go_ret
      exact RV.bool rfl (hE0.trans (hx2.trans hx3))
  · go_enter Try.func10, Try.ntmps10
    go_wp2_with fail
    rw [← HW.out]
    refine HLG.out.mono ?_; rintro e w1 ⟨rfl, hx1⟩
    go_wp2_with fail
    refine (known_c _).mono ?_; rintro e w3 ⟨rfl, hx3⟩
    go_wp2_with fail
    go_ret
    exact RV.bool rfl (hE0.trans (hx1.trans hx3))
end Go.Proofs.Ytojbamejhlaahaa

