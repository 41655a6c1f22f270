/- RuleMirrors: for every input the call returns true. No condition. -/
import Derived.Test.YtojbamejhlaahaaLaw2
import Derived.Test.YtojbamejhlaahaaMirLaw
import Derived.Test.YtojbamejhlaahaaRuleMir
namespace Go.Proofs.Ytojbamejhlaahaa
open Go.RowKit Go.Shelf
set_option linter.unusedVariables false

set_option maxHeartbeats 2000000 in
set_option maxRecDepth 100000 in
theorem ruleMirrors_c (tv lv rv : Value) (x : Rul) (wv : Value) (l : List Int) (w : World) (h : RulR w tv lv rv x) (hw : Ints w wv l) :
    Calls Try.prog 12 #[.agg #[.int .i64 x.f, tv, lv, rv], wv] w (RV (.bool true) w) := by
  obtain ⟨wA, hwA⟩ : ∃ wA, wA = w.alloc (.cells #[.int .i64 x.f, tv, lv, rv] 24) := ⟨_, rfl⟩
  have hE0 : Ext w wA := by rw [hwA]; exact Ext.alloc _ _
  have k0 : ∀ W, Ext wA W → W.cell? ⟨w.heap.size, 0, none⟩ = some (.int .i64 x.f) := by rw [hwA]; exact kept_alloc w _ _ rfl
  have k1 : ∀ W, Ext wA W → W.cell? ⟨w.heap.size, 1, none⟩ = some tv := by rw [hwA]; exact kept_alloc w _ _ rfl
  have k2 : ∀ W, Ext wA W → W.cell? ⟨w.heap.size, 2, none⟩ = some lv := by rw [hwA]; exact kept_alloc w _ _ rfl
  have k3 : ∀ W, Ext wA W → W.cell? ⟨w.heap.size, 3, none⟩ = some rv := by rw [hwA]; exact kept_alloc w _ _ rfl
  have H0 : Ext wA wA := Ext.refl _
  have HR := Lib.hid (h.ext hE0)
  have HLG := Lib.hid (Long_c tv lv rv x wA (h.ext hE0))
  have HI := Lib.hid (hw.ext hE0)
  have HLA := Lib.hid (fun W (hW : Ext wA W) => large_c wv l W (HI.out.ext hW))
  obtain ⟨aw, cw, rfl, _⟩ := hw.open_
  have hb2 : decide (100 < l.length) = false → l.length ≤ 100 := fun h => by simpa using h
  have HB2 := Lib.hid hb2; clear hb2
  have HW := Lib.hid hwA; clear hwA h hw
  generalize hb1 : longR x = b1 at *
  have HB := Lib.hid hb1; clear hb1
  generalize decide (100 < l.length) = b2 at *
  cases b1
  · cases b2
    · have hll := HB2.out rfl
      go_enter Try.func12, Try.ntmps12
      go_wp2_with fail
      rw [← HW.out]
      refine HLG.out.mono ?_; rintro e w1 ⟨rfl, hx1⟩
      go_wp2_with fail
      refine (HLA.out w1 hx1).mono ?_; rintro e w2 ⟨rfl, hy2⟩
      have hx2 := hx1.trans hy2
      clear hx1 hy2
      clear HLA HLG HB2
      go_wp2_with fail
      obtain ⟨y, hym⟩ : ∃ y, mirX x = y := ⟨_, rfl⟩
      obtain ⟨K, hkk⟩ : ∃ K, validR x = K := ⟨_, rfl⟩
      obtain ⟨KW, hkw⟩ : ∃ K, validW l = K := ⟨_, rfl⟩
      have HM1 := Lib.hid (fun W (hW : Ext wA W) => Mirror_c _ _ _ x W (HR.out.ext hW) HB.out)
      have HM2 := Lib.hid (fun W (hW : Ext wA W) => rMirror_c _ _ _ x W (HR.out.ext hW) HB.out)
      have HB1 := Lib.hid (fun W (hW : Ext wA W) => Back_c _ l W (HI.out.ext hW) (by omega))
      have HB2 := Lib.hid (fun W (hW : Ext wA W) => rBack_c _ l W (HI.out.ext hW) (by omega))
      have HYM := Lib.hid (mirror_word (x := x) (l := l))
      have HPA := Lib.hid (places_at x l)
      rw [hym, hkk] at HM1 HM2
      obtain ⟨BL, hbl⟩ : ∃ B, backL l = B := ⟨_, rfl⟩
      rw [hkw, hbl] at HB1 HB2
      rw [hkk, hkw, hym, hbl] at HYM
      have HVK := Lib.hid (fun (h : K = 0) => (validR_zero (hkk.trans h)).nb)
      clear hym hkk hkw hbl
      refine (HM1.out w2 hx2).mono ?_; rintro e w3_ ⟨tv3, lv3, rv3, rfl, hr3, hz3⟩
      obtain ⟨at3, ct3, rfl, _⟩ := hr3.t.open_
      obtain ⟨al3, cl3, rfl, _⟩ := hr3.l.open_
      obtain ⟨ar3, cr3, rfl, _⟩ := hr3.r.open_
      have HR3_ := Lib.hid (hr3.ext (Ext.alloc w3_ (.cells #[.int .i64 y.f, .slice at3 y.t.length ct3, .slice al3 y.l.length cl3, .slice ar3 y.r.length cr3] 24)))
      obtain ⟨g3, hg3⟩ : ∃ g, g = w3_.heap.size := ⟨_, rfl⟩
      have q30 : ∀ W, Ext (w3_.alloc (.cells #[.int .i64 y.f, .slice at3 y.t.length ct3, .slice al3 y.l.length cl3, .slice ar3 y.r.length cr3] 24)) W → W.cell? ⟨w3_.heap.size, 0, none⟩ = some (.int .i64 y.f) := kept_alloc _ _ _ rfl
      have q31 : ∀ W, Ext (w3_.alloc (.cells #[.int .i64 y.f, .slice at3 y.t.length ct3, .slice al3 y.l.length cl3, .slice ar3 y.r.length cr3] 24)) W → W.cell? ⟨w3_.heap.size, 1, none⟩ = some (.slice at3 y.t.length ct3) := kept_alloc _ _ _ rfl
      have q32 : ∀ W, Ext (w3_.alloc (.cells #[.int .i64 y.f, .slice at3 y.t.length ct3, .slice al3 y.l.length cl3, .slice ar3 y.r.length cr3] 24)) W → W.cell? ⟨w3_.heap.size, 2, none⟩ = some (.slice al3 y.l.length cl3) := kept_alloc _ _ _ rfl
      have q33 : ∀ W, Ext (w3_.alloc (.cells #[.int .i64 y.f, .slice at3 y.t.length ct3, .slice al3 y.l.length cl3, .slice ar3 y.r.length cr3] 24)) W → W.cell? ⟨w3_.heap.size, 3, none⟩ = some (.slice ar3 y.r.length cr3) := kept_alloc _ _ _ rfl
      have hy3 : Ext w2 (w3_.alloc (.cells #[.int .i64 y.f, .slice at3 y.t.length ct3, .slice al3 y.l.length cl3, .slice ar3 y.r.length cr3] 24)) := hz3.trans (Ext.alloc _ _)
      clear hr3 hz3
      have hx3 := hx2.trans hy3
      go_wp2_with fail
      rw [← hg3] at q30 q31 q32 q33 ⊢
      clear hg3
      generalize w3_.alloc (.cells #[.int .i64 y.f, .slice at3 y.t.length ct3, .slice al3 y.l.length cl3, .slice ar3 y.r.length cr3] 24) = w3 at *
      refine (HM2.out w3 hx3).mono ?_; rintro e w4_ ⟨tv4, lv4, rv4, rfl, hr4, hz4⟩
      obtain ⟨at4, ct4, rfl, _⟩ := hr4.t.open_
      obtain ⟨al4, cl4, rfl, _⟩ := hr4.l.open_
      obtain ⟨ar4, cr4, rfl, _⟩ := hr4.r.open_
      have HR4_ := Lib.hid (hr4.ext (Ext.alloc w4_ (.cells #[.int .i64 y.f, .slice at4 y.t.length ct4, .slice al4 y.l.length cl4, .slice ar4 y.r.length cr4] 24)))
      obtain ⟨g4, hg4⟩ : ∃ g, g = w4_.heap.size := ⟨_, rfl⟩
      have q40 : ∀ W, Ext (w4_.alloc (.cells #[.int .i64 y.f, .slice at4 y.t.length ct4, .slice al4 y.l.length cl4, .slice ar4 y.r.length cr4] 24)) W → W.cell? ⟨w4_.heap.size, 0, none⟩ = some (.int .i64 y.f) := kept_alloc _ _ _ rfl
      have q41 : ∀ W, Ext (w4_.alloc (.cells #[.int .i64 y.f, .slice at4 y.t.length ct4, .slice al4 y.l.length cl4, .slice ar4 y.r.length cr4] 24)) W → W.cell? ⟨w4_.heap.size, 1, none⟩ = some (.slice at4 y.t.length ct4) := kept_alloc _ _ _ rfl
      have q42 : ∀ W, Ext (w4_.alloc (.cells #[.int .i64 y.f, .slice at4 y.t.length ct4, .slice al4 y.l.length cl4, .slice ar4 y.r.length cr4] 24)) W → W.cell? ⟨w4_.heap.size, 2, none⟩ = some (.slice al4 y.l.length cl4) := kept_alloc _ _ _ rfl
      have q43 : ∀ W, Ext (w4_.alloc (.cells #[.int .i64 y.f, .slice at4 y.t.length ct4, .slice al4 y.l.length cl4, .slice ar4 y.r.length cr4] 24)) W → W.cell? ⟨w4_.heap.size, 3, none⟩ = some (.slice ar4 y.r.length cr4) := kept_alloc _ _ _ rfl
      have hy4 : Ext w3 (w4_.alloc (.cells #[.int .i64 y.f, .slice at4 y.t.length ct4, .slice al4 y.l.length cl4, .slice ar4 y.r.length cr4] 24)) := hz4.trans (Ext.alloc _ _)
      clear hr4 hz4
      have hx4 := hx3.trans hy4
      go_wp2_with fail
      rw [← hg4] at q40 q41 q42 q43 ⊢
      clear hg4
      generalize w4_.alloc (.cells #[.int .i64 y.f, .slice at4 y.t.length ct4, .slice al4 y.l.length cl4, .slice ar4 y.r.length cr4] 24) = w4 at *
      have HR3 : Hid (RulR w4 _ _ _ y) := Lib.hid (HR3_.out.ext hy4); clear HR3_
      have HR4 := HR4_; clear HR4_
      replace q30 := fun W (hW : Ext w4 W) => q30 W (hy4.trans hW)
      replace q31 := fun W (hW : Ext w4 W) => q31 W (hy4.trans hW)
      replace q32 := fun W (hW : Ext w4 W) => q32 W (hy4.trans hW)
      replace q33 := fun W (hW : Ext w4 W) => q33 W (hy4.trans hW)
      have HX4 := Lib.hid hx4
      clear hy4 hx3
      refine (HB1.out w4 hx4).mono ?_; rintro e w5 ⟨v5, rfl, ho5, hy5⟩
      obtain ⟨a5, c5, rfl, _⟩ := ho5.ints.open_
      have HO5 := Lib.hid ho5.ints; clear ho5
      have hx5 := hx4.trans hy5
      go_wp2_with fail
      refine (HB2.out w5 hx5).mono ?_; rintro e w6 ⟨v6, rfl, ho6, hz6⟩
      have HO6 := Lib.hid ho6.ints; clear ho6
      have hx6 := hx5.trans hz6
      have hy6 := hy5.trans hz6
      go_wp2_with fail
      refine (Same_c _ _ _ _ _ _ y w6 (HR3.out.ext hy6) (HR4.out.ext hy6)).mono ?_; rintro e w7 ⟨rfl, hz7⟩
      have hx7 := hx6.trans hz7
      have hy7 := hy6.trans hz7
      go_wp2_with fail
      refine (sameInts_same _ v6 _ w7 (HO5.out.ext (hz6.trans hz7)) (HO6.out.ext hz7)).mono ?_; rintro e w8 ⟨rfl, n8, hw8⟩
      have hz8 : Ext w7 w8 := by rw [hw8]; exact Ext.drewN _ _
      clear hw8
      have hx8 := hx7.trans hz8
      have hy8 := hy7.trans hz8
      by_cases h0 : K = 0
      · by_cases h1 : KW = 0
        · obtain ⟨p1, p2, p3, p4, p5, p6, p7, p8, p9⟩ := HYM.out h0 h1
          obtain ⟨pa, pb⟩ := HPA.out
          have hnb := HVK.out h0
          clear HYM HPA HVK HM1 HM2 HB1 HB2
          subst h0 h1
          have HPB := Lib.hid pb; clear pb
          have HC1 := Lib.hid (fun W (hW : Ext wA W) => Places_c _ _ _ _ x l W (HR.out.ext hW) (HI.out.ext hW))
          have HC2 := Lib.hid (fun W (hW : Ext w4 W) (hi : Ints W (.slice a5 BL.length c5) BL) => Places_c _ _ _ _ y BL W (HR3.out.ext hW) hi)
          have HC3 := Lib.hid (fun W (hW : Ext wA W) => AtAll_c _ _ _ _ x l W (HR.out.ext hW) (HI.out.ext hW))
          have HC4 := Lib.hid (fun W (hW : Ext w4 W) (hi : Ints W (.slice a5 BL.length c5) BL) => AtAll_c _ _ _ _ y BL W (HR3.out.ext hW) hi)
          rw [p1, p2] at HC1
          rw [p3, p4] at HC2
          rw [p6, p7] at HC4
          obtain ⟨LR, hlr⟩ : ∃ B, (atAllL x l).reverse = B := ⟨_, rfl⟩
          rw [hlr] at HC4
          have HLR := Lib.hid hlr; clear hlr
          have hM : ∃ M : Int, (l.length : Int) - lng x = M ∧ M = (if x.f < 0 then (l.length : Int) else (l.length : Int) - 1) := by
            refine ⟨_, rfl, ?_⟩
            unfold lng
            have : x.f = -1 ∨ 0 ≤ x.f := by simp [nbB, inB] at hnb; omega
            rcases this with h | h
            · rw [if_pos h, if_pos (by omega)]; omega
            · rw [if_neg (by omega), if_neg (by omega)]; omega
          obtain ⟨M, hM1, hM2⟩ := hM
          rw [hM1] at HPB
          have HMM := Lib.hid hM2
          have HP9 := Lib.hid p9
          clear p1 p2 p3 p4 p5 p6 p7 p9 hM1 hM2 hnb
          generalize placesL (rev x) l.reverse = Q at *
          generalize placesL x l = P at *
          generalize atAllK x l = KA at *
          generalize atAllL x l = LA at *
          by_cases hneg : x.f < 0
          · have HMX := HMM.out
            rw [if_pos hneg] at HMX
            subst HMX
            go_wp2_with fail
            refine (HC1.out w8 hx8).mono ?_; rintro e w9 ⟨v9, rfl, ho9, hz9⟩
            obtain ⟨a9, c9, rfl, _, hm9, HL9⟩ := ho9.ints.open_
            have hx9 := hx8.trans hz9
            have hy9 := hy8.trans hz9
            clear ho9
            go_wp2_with fail
            refine (HC2.out w9 hy9 (HO5.out.ext (hz6.trans (hz7.trans (hz8.trans hz9))))).mono ?_; rintro e w10 ⟨v10, rfl, ho10, hz10⟩
            obtain ⟨a10, c10, rfl, _, hm10, HL10⟩ := ho10.ints.open_
            have hx10 := hx9.trans hz10
            have hy10 := hy9.trans hz10
            clear ho10
            rw [pa]
            go_wp2_with fail
            go_loopg [17, 18] P.length (fun m i f wr => ∃ k : Nat, k ≤ P.length ∧ P.length ≤ k + m ∧ i = .int .i64 k ∧ Ext w10 wr)
            case atStart => exact ⟨0, by omega, by omega, rfl, Ext.refl _⟩
            case round =>
              obtain ⟨k, hk, hk2, rfl, hB⟩ := hrel
              have hxr := hx10.trans hB
              by_cases hlt : k < P.length
              · obtain ⟨b1, o1, rfl, e1⟩ := HL9.out k hlt
                replace e1 := (hz10.trans hB).keep e1
                obtain ⟨b2, o2, rfl, e2⟩ := HL10.out (P.length - 1 - k) (by omega)
                replace e2 := hB.keep e2
                obtain ⟨p1, p2, p3⟩ := HPB.out k hlt
                rw [p1] at e2
                generalize P[k]?.getD 0 = n at *
                have ew1 : IntKind.i64.wrap ((l.length : Int) - 1) = (l.length : Int) - 1 := IntWalk.i64_in _ (by omega)
                have ew2 : IntKind.i64.wrap ((l.length : Int) - 1 - n) = (l.length : Int) - 1 - n := IntWalk.i64_in _ (by omega)
                have ew3 : IntKind.i64.wrap ((l.length : Int) - n) = (l.length : Int) - n := IntWalk.i64_in _ (by omega)
                have ew4 : IntKind.i64.wrap ((P.length : Int) - 1) = (P.length : Int) - 1 := IntWalk.i64_in _ (by omega)
                have ew5 : IntKind.i64.wrap ((P.length : Int) - 1 - k) = ((P.length - 1 - k : Nat) : Int) := by rw [IntWalk.i64_in _ (by omega)]; omega
                have hjl : P.length - 1 - k < P.length := by omega
                generalize P.length - 1 - k = jj at *
                go_wp2_with fail
                go_roundg (gk-1)
                case measure => omega
                case rel => exact ⟨k + 1, by omega, by omega, by go_num, hB⟩
              · have hyr := hy10.trans hB
                have hvr := (hz6.trans (hz7.trans (hz8.trans (hz9.trans hz10)))).trans hB
                clear HPB HC1 HC2 hz6 hz7 hz8 hz9 hz10 hB HL9 HL10
                go_wp2_with fail
                refine (HC3.out wr hxr).mono ?_; rintro e w11 ⟨v11, rfl, ho11, hz11⟩
                have HO11 := Lib.hid ho11.ints; clear ho11
                have hx11 := hxr.trans hz11
                have hy11 := hyr.trans hz11
                have hv11 := hvr.trans hz11
                clear hxr hyr hvr
                go_wp2_with fail
                refine (HC4.out w11 hy11 (HO5.out.ext hv11)).mono ?_; rintro e w12 ⟨v12, rfl, ho12, hz12⟩
                have HO12 := Lib.hid ho12.ints; clear ho12
                have hx12 := hx11.trans hz12
                clear hx11 hy11 hv11
                have HBK := Lib.hid (Back_c v11 LA w12 (HO11.out.ext hz12) (by omega))
                by_cases hka : KA = 0
                · have h9 := HP9.out hka
                  rw [h9, show backL LA = LR by rw [backL, if_pos h9]; exact HLR.out] at HBK
                  subst hka
                  clear h9 HP9
                  go_wp2_with fail
                  refine HBK.out.mono ?_; rintro e w13 ⟨v13, rfl, ho13, hz13⟩
                  have HO13 := Lib.hid ho13.ints; clear ho13
                  have hx13 := hx12.trans hz13
                  go_wp2_with fail
                  refine (sameInts_same v12 v13 _ w13 (HO12.out.ext hz13) HO13.out).mono ?_; rintro e w14 ⟨rfl, n14, hw14⟩
                  have hx14 : Ext wA w14 := hx13.trans (by rw [hw14]; exact Ext.drewN _ _)
                  clear hw14
                  go_wp2_with fail
                  refine (known_c _).mono ?_; rintro e wK ⟨rfl, hxK⟩
                  go_wp2_with fail
                  go_ret
                  exact RV.bool rfl (hE0.trans (hx14.trans hxK))
                · have hk : (KA != 0) = true := by simp [hka]
                  generalize validW LA = K9 at *
                  generalize backL LA = B9 at *
                  clear hka HP9
                  go_wp2_with fail
                  refine HBK.out.mono ?_; rintro e w13 ⟨v13, rfl, ho13, hz13⟩
                  have HO13 := Lib.hid ho13.ints; clear ho13
                  have hx13 := hx12.trans hz13
                  go_wp2_with fail
                  refine (known_c _).mono ?_; rintro e wK ⟨rfl, hxK⟩
                  go_wp2_with fail
                  go_ret
                  exact RV.bool rfl (hE0.trans (hx13.trans hxK))
          · have HMX := HMM.out
            rw [if_neg hneg] at HMX
            subst HMX
            go_wp2_with fail
            refine (HC1.out w8 hx8).mono ?_; rintro e w9 ⟨v9, rfl, ho9, hz9⟩
            obtain ⟨a9, c9, rfl, _, hm9, HL9⟩ := ho9.ints.open_
            have hx9 := hx8.trans hz9
            have hy9 := hy8.trans hz9
            clear ho9
            go_wp2_with fail
            refine (HC2.out w9 hy9 (HO5.out.ext (hz6.trans (hz7.trans (hz8.trans hz9))))).mono ?_; rintro e w10 ⟨v10, rfl, ho10, hz10⟩
            obtain ⟨a10, c10, rfl, _, hm10, HL10⟩ := ho10.ints.open_
            have hx10 := hx9.trans hz10
            have hy10 := hy9.trans hz10
            clear ho10
            rw [pa]
            go_wp2_with fail
            go_loopg [17, 18] P.length (fun m i f wr => ∃ k : Nat, k ≤ P.length ∧ P.length ≤ k + m ∧ i = .int .i64 k ∧ Ext w10 wr)
            case atStart => exact ⟨0, by omega, by omega, rfl, Ext.refl _⟩
            case round =>
              obtain ⟨k, hk, hk2, rfl, hB⟩ := hrel
              have hxr := hx10.trans hB
              by_cases hlt : k < P.length
              · obtain ⟨b1, o1, rfl, e1⟩ := HL9.out k hlt
                replace e1 := (hz10.trans hB).keep e1
                obtain ⟨b2, o2, rfl, e2⟩ := HL10.out (P.length - 1 - k) (by omega)
                replace e2 := hB.keep e2
                obtain ⟨p1, p2, p3⟩ := HPB.out k hlt
                rw [p1] at e2
                generalize P[k]?.getD 0 = n at *
                have ew1 : IntKind.i64.wrap ((l.length : Int) - 1) = (l.length : Int) - 1 := IntWalk.i64_in _ (by omega)
                have ew2 : IntKind.i64.wrap ((l.length : Int) - 1 - n) = (l.length : Int) - 1 - n := IntWalk.i64_in _ (by omega)
                have ew3 : IntKind.i64.wrap ((l.length : Int) - n) = (l.length : Int) - n := IntWalk.i64_in _ (by omega)
                have ew4 : IntKind.i64.wrap ((P.length : Int) - 1) = (P.length : Int) - 1 := IntWalk.i64_in _ (by omega)
                have ew5 : IntKind.i64.wrap ((P.length : Int) - 1 - k) = ((P.length - 1 - k : Nat) : Int) := by rw [IntWalk.i64_in _ (by omega)]; omega
                have hjl : P.length - 1 - k < P.length := by omega
                generalize P.length - 1 - k = jj at *
                go_wp2_with fail
                go_roundg (gk-1)
                case measure => omega
                case rel => exact ⟨k + 1, by omega, by omega, by go_num, hB⟩
              · have hyr := hy10.trans hB
                have hvr := (hz6.trans (hz7.trans (hz8.trans (hz9.trans hz10)))).trans hB
                clear HPB HC1 HC2 hz6 hz7 hz8 hz9 hz10 hB HL9 HL10
                go_wp2_with fail
                refine (HC3.out wr hxr).mono ?_; rintro e w11 ⟨v11, rfl, ho11, hz11⟩
                have HO11 := Lib.hid ho11.ints; clear ho11
                have hx11 := hxr.trans hz11
                have hy11 := hyr.trans hz11
                have hv11 := hvr.trans hz11
                clear hxr hyr hvr
                go_wp2_with fail
                refine (HC4.out w11 hy11 (HO5.out.ext hv11)).mono ?_; rintro e w12 ⟨v12, rfl, ho12, hz12⟩
                have HO12 := Lib.hid ho12.ints; clear ho12
                have hx12 := hx11.trans hz12
                clear hx11 hy11 hv11
                have HBK := Lib.hid (Back_c v11 LA w12 (HO11.out.ext hz12) (by omega))
                by_cases hka : KA = 0
                · have h9 := HP9.out hka
                  rw [h9, show backL LA = LR by rw [backL, if_pos h9]; exact HLR.out] at HBK
                  subst hka
                  clear h9 HP9
                  go_wp2_with fail
                  refine HBK.out.mono ?_; rintro e w13 ⟨v13, rfl, ho13, hz13⟩
                  have HO13 := Lib.hid ho13.ints; clear ho13
                  have hx13 := hx12.trans hz13
                  go_wp2_with fail
                  refine (sameInts_same v12 v13 _ w13 (HO12.out.ext hz13) HO13.out).mono ?_; rintro e w14 ⟨rfl, n14, hw14⟩
                  have hx14 : Ext wA w14 := hx13.trans (by rw [hw14]; exact Ext.drewN _ _)
                  clear hw14
                  go_wp2_with fail
                  refine (known_c _).mono ?_; rintro e wK ⟨rfl, hxK⟩
                  go_wp2_with fail
                  go_ret
                  exact RV.bool rfl (hE0.trans (hx14.trans hxK))
                · have hk : (KA != 0) = true := by simp [hka]
                  generalize validW LA = K9 at *
                  generalize backL LA = B9 at *
                  clear hka HP9
                  go_wp2_with fail
                  refine HBK.out.mono ?_; rintro e w13 ⟨v13, rfl, ho13, hz13⟩
                  have HO13 := Lib.hid ho13.ints; clear ho13
                  have hx13 := hx12.trans hz13
                  go_wp2_with fail
                  refine (known_c _).mono ?_; rintro e wK ⟨rfl, hxK⟩
                  go_wp2_with fail
                  go_ret
                  exact RV.bool rfl (hE0.trans (hx13.trans hxK))
        · have hk : (KW != 0) = true := by simp [h1]
          clear HYM HPA HVK HM1 HM2 HB1 HB2 h1
          subst h0
          go_wp2_with fail
          refine (known_c _).mono ?_; rintro e wK ⟨rfl, hxK⟩
          go_wp2_with fail
          go_ret
          exact RV.bool rfl (hE0.trans (hx8.trans hxK))
      · have hk : (K != 0) = true := by simp [h0]
        clear HYM HPA HVK HM1 HM2 HB1 HB2 h0
        go_wp2_with fail
        refine (known_c _).mono ?_; rintro e wK ⟨rfl, hxK⟩
        go_wp2_with fail
        go_ret
        exact RV.bool rfl (hE0.trans (hx8.trans hxK))
    · go_enter Try.func12, Try.ntmps12
      go_wp2_with fail
      rw [← HW.out]
      refine HLG.out.mono ?_; rintro e w1 ⟨rfl, hx1⟩
      go_wp2_with fail
      refine (HLA.out w1 hx1).mono ?_; rintro e w2 ⟨rfl, hy2⟩
      have hx2 := hx1.trans hy2
      clear hx1 hy2
      go_wp2_with fail
      refine (known_c _).mono ?_; rintro e w3 ⟨rfl, hx3⟩
      go_wp2_with fail
      go_ret
      exact RV.bool rfl (hE0.trans (hx2.trans hx3))
  · go_enter Try.func12, Try.ntmps12
    go_wp2_with fail
    rw [← HW.out]
    refine HLG.out.mono ?_; rintro e w1 ⟨rfl, hx1⟩
    go_wp2_with fail
    refine (known_c _).mono ?_; rintro e w3 ⟨rfl, hx3⟩
    go_wp2_with fail
    go_ret
    exact RV.bool rfl (hE0.trans (hx1.trans hx3))
end Go.Proofs.Ytojbamejhlaahaa

