/- RuleMeetsIn: for every input the call returns true. No condition. -/
import Derived.Test.YtojbamejhlaahaaLaw2
import Derived.Test.YtojbamejhlaahaaTwoC
namespace Go.Proofs.Ytojbamejhlaahaa
open Go.RowKit Go.Shelf
set_option linter.unusedVariables false
def partB (a b : List Int) : Bool := allB a.length fun i => hasB b (a[i]?.getD 0)
set_option maxHeartbeats 400000 in
theorem part_c (va vb : Value) (a b : List Int) (w : World) (ha : Ints w va a) (hb : Ints w vb b) : Calls Try.prog 44 #[va, vb] w (RP (.bool (partB a b)) w) := by
  have HB := Lib.hid hb
  obtain ⟨aa, ca, rfl, hla, hma, HA⟩ := ha.open_
  clear ha hb
  go_enter Try.func44, Try.ntmps44
  go_wp2_with fail
  go_loopg [5] a.length (fun m i wr => ∃ k : Nat, k ≤ a.length ∧ a.length ≤ k + m ∧ i = .int .i64 k ∧ w = wr ∧ Hid (∀ j, j < k → hasB b (a[j]?.getD 0) = true))
  case atStart => exact ⟨0, by omega, by omega, rfl, rfl, fun j hj => by omega⟩
  case round =>
    obtain ⟨k, hk, hk2, rfl, rfl, hE⟩ := hrel
    by_cases hlt : k < a.length
    · obtain ⟨ba, oa, rfl, hc1⟩ := HA.out k hlt
      have HC := Lib.hid (has_c vb b (a[k]?.getD 0) w HB.out)
      have HST := Lib.hid (range_step (f := fun j => hasB b (a[j]?.getD 0)) hE.out)
      have HFL : Hid (hasB b (a[k]?.getD 0) = false → partB a b = false) := fun h => allB_false hlt h
      generalize a[k]?.getD 0 = y at *
      generalize hasB b y = q at *
      cases q
      · have HF := Lib.hid (HFL.out rfl)
        go_wp2_with fail
        refine HC.out.mono ?_; rintro e w1 ⟨rfl, rfl⟩
        go_wp2_with fail
        go_ret
        exact RP.bool HF.out.symm
      · have HF := Lib.hid (HST.out rfl)
        go_wp2_with fail
        refine HC.out.mono ?_; rintro e w1 ⟨rfl, rfl⟩
        go_wp2_with fail
        go_roundg (gk-1)
        case measure => omega
        case rel => exact ⟨k+1, by omega, by omega, by go_num, rfl, HF.out⟩
    · have HF := Lib.hid (show partB a b = true from allB_true (fun j hj => hE.out j (by omega)))
      go_wp2_with fail
      go_ret
      exact RP.bool HF.out.symm
theorem com_some {a b : List Int} {n : Int} (h1 : -1 ≤ n) (h2 : n ≤ 5) (h : bothB a b n = true) : ((comL a b).length == 0) = false := by
  rw [comL, List.length_map, sel, List.length_map]
  rw [beq_eq_false_iff_ne]
  intro hz
  rw [List.length_eq_zero_iff, List.filter_eq_nil_iff] at hz
  exact hz (n + 1).toNat (by simp; omega) (by rw [show (((n + 1).toNat : Nat) : Int) - 1 = n by omega]; exact h)
theorem place_may {x : Rul} {l : List Int} {i : Int} (h : placeAt x l i = true) : mayB x.l (atI l (i - 1)) = true ∧ mayB x.r (atI l (i + lng x)) = true := by
  simp only [placeAt, Bool.and_eq_true] at h
  exact h.2
/-- a common place: they can meet -/
theorem common_meet {x y : Rul} {l : List Int} (hf : x.f = y.f) (h2 : twoK x y = 0) (hs : sndB l = true) {j : Nat} (hj : j < (placesL x l).length) (hm : hasB (placesL y l) ((placesL x l)[j]?.getD 0) = true) : meet x y = true := by
  obtain ⟨i, hi, hp, he⟩ := sel_get (n := l.length + 1 - lng x) (f := fun i => placeAt x l i) (k := j) hj
  have he' : (placesL x l)[j]?.getD 0 = (i : Int) := he
  rw [he', hasB_eq] at hm
  simp only [List.contains_eq_mem, decide_eq_true_eq] at hm
  obtain ⟨k, _, hq, hk⟩ := mem_sel.1 hm
  obtain rfl : i = k := by omega
  obtain ⟨p1, p2⟩ := place_may hp
  obtain ⟨q1, q2⟩ := place_may hq
  have hlg : lng y = lng x := by unfold lng; rw [hf]
  rw [hlg] at q2
  have a1 := atI_in hs ((i : Int) - 1)
  have a2 := atI_in hs ((i : Int) + lng x)
  have hb : (x.f == y.f) = true := by simp [hf]
  rw [meet, if_pos h2, meetB, hb, com_some a1.1 a1.2 (by rw [bothB, p1, q1]; rfl), com_some a2.1 a2.2 (by rw [bothB, p2, q2]; rfl)]
  rfl
theorem in_law {x y : Rul} {l : List Int} (hf : (x.f == y.f) = true) (h1 : plK x l = 0) (h2 : plK y l = 0) : twoK x y = 0 ∧ plL x l = placesL x l ∧ ∀ j, j < (placesL x l).length → hasB (plL y l) ((placesL x l)[j]?.getD 0) = true → meet x y = true := by
  have hx : validR x = 0 := by
    rw [plK, wordK] at h1; split at h1
    · rename_i h; exact h
    · rename_i h; exact absurd h1 h
  have hy : validR y = 0 := by
    rw [plK, wordK] at h2; split at h2
    · rename_i h; exact h
    · rename_i h; exact absurd h2 h
  have ht : twoK x y = 0 := by rw [twoK, if_pos hx]; exact hy
  refine ⟨ht, by rw [plL, if_pos (show wordK x l = 0 from h1)], fun j hj hm => ?_⟩
  rw [plL, if_pos (show wordK y l = 0 from h2)] at hm
  exact common_meet (by simpa using hf) ht (wordK_zero (show wordK x l = 0 from h1)).2.2 hj hm
theorem part_one (b : List Int) (n : Int) : partB [n] b = hasB b n := by simp [partB, allB, List.range, List.range.loop]

set_option maxHeartbeats 2000000 in
set_option maxRecDepth 100000 in
theorem ruleMeetsIn_c (tv lv rv tu lu ru : Value) (x y : Rul) (wv : Value) (l : List Int) (w : World) (hr : RulR w tv lv rv x) (hs : RulR w tu lu ru y) (hw : Ints w wv l) :
    Calls Try.prog 14 #[.agg #[.int .i64 x.f, tv, lv, rv, .int .i64 y.f, tu, lu, ru], wv] w (RV (.bool true) w) := by
  obtain ⟨a1, c1, rfl, _⟩ := hr.t.open_
  obtain ⟨a2, c2, rfl, _⟩ := hr.l.open_
  obtain ⟨a3, c3, rfl, _⟩ := hr.r.open_
  obtain ⟨a4, c4, rfl, _⟩ := hs.t.open_
  obtain ⟨a5, c5, rfl, _⟩ := hs.l.open_
  obtain ⟨a6, c6, rfl, _⟩ := hs.r.open_
  obtain ⟨wA, hwA⟩ : ∃ wA, wA = w.alloc (.cells #[.int .i64 x.f, .slice a1 x.t.length c1, .slice a2 x.l.length c2, .slice a3 x.r.length c3, .int .i64 y.f, .slice a4 y.t.length c4, .slice a5 y.l.length c5, .slice a6 y.r.length c6] 45) := ⟨_, rfl⟩
  have hE0 : Ext w wA := by rw [hwA]; exact Ext.alloc _ _
  have k0 : ∀ W, Ext wA W → W.cell? ⟨w.heap.size, 0, none⟩ = some (.int .i64 x.f) := by rw [hwA]; exact kept_alloc w _ _ rfl
  have k1 : ∀ W, Ext wA W → W.cell? ⟨w.heap.size, 1, none⟩ = some (.slice a1 x.t.length c1) := by rw [hwA]; exact kept_alloc w _ _ rfl
  have k2 : ∀ W, Ext wA W → W.cell? ⟨w.heap.size, 2, none⟩ = some (.slice a2 x.l.length c2) := by rw [hwA]; exact kept_alloc w _ _ rfl
  have k3 : ∀ W, Ext wA W → W.cell? ⟨w.heap.size, 3, none⟩ = some (.slice a3 x.r.length c3) := by rw [hwA]; exact kept_alloc w _ _ rfl
  have k4 : ∀ W, Ext wA W → W.cell? ⟨w.heap.size, 4, none⟩ = some (.int .i64 y.f) := by rw [hwA]; exact kept_alloc w _ _ rfl
  have k5 : ∀ W, Ext wA W → W.cell? ⟨w.heap.size, 5, none⟩ = some (.slice a4 y.t.length c4) := by rw [hwA]; exact kept_alloc w _ _ rfl
  have k6 : ∀ W, Ext wA W → W.cell? ⟨w.heap.size, 6, none⟩ = some (.slice a5 y.l.length c5) := by rw [hwA]; exact kept_alloc w _ _ rfl
  have k7 : ∀ W, Ext wA W → W.cell? ⟨w.heap.size, 7, none⟩ = some (.slice a6 y.r.length c6) := by rw [hwA]; exact kept_alloc w _ _ rfl
  have H0 : Ext wA wA := Ext.refl _
  have HX := Lib.hid (hr.ext hE0)
  have HY := Lib.hid (hs.ext hE0)
  have HLG := Lib.hid (Long_c _ _ _ x wA HX.out)
  have HLH := Lib.hid (fun W (hW : Ext wA W) => Long_c _ _ _ y W (HY.out.ext hW))
  have HI := Lib.hid (hw.ext hE0)
  obtain ⟨aw, cw, rfl, _⟩ := hw.open_
  have HLA := Lib.hid (fun W (hW : Ext wA W) => large_c _ l W (HI.out.ext hW))
  have hb2 : decide (100 < l.length) = false → l.length ≤ 100 := fun h => by simpa using h
  have HB2 := Lib.hid hb2; clear hb2
  have HW := Lib.hid hwA; clear hwA hr hs hw
  generalize hb1 : longR x = b1 at *
  have HBX := Lib.hid hb1; clear hb1
  generalize hb1 : longR y = b2 at *
  have HBY := Lib.hid hb1; clear hb1
  generalize decide (100 < l.length) = b3 at *
  cases b1
  · cases b2
    · cases b3
      · have hll := HB2.out rfl
        cases hbf : (x.f == y.f)
        · have hbn : (x.f != y.f) = true := by rw [bne, hbf]; rfl
          clear hbf
          go_enter Try.func14, Try.ntmps14
          go_wp2_with fail
          rw [← HW.out]
          refine HLG.out.mono ?_; rintro e w1 ⟨rfl, hx1⟩
          go_wp2_with fail
          refine (HLH.out w1 hx1).mono ?_; rintro e wM ⟨rfl, hy2⟩
          have hx2 := hx1.trans hy2
          clear hx1 hy2
          go_wp2_with fail
          refine (HLA.out wM hx2).mono ?_; rintro e w2 ⟨rfl, hy2⟩
          replace hx2 := hx2.trans hy2
          clear hy2
          clear HLA
          go_wp2_with fail
          refine (known_c _).mono ?_; rintro e wK ⟨rfl, hxK⟩
          go_wp2_with fail
          go_ret
          exact RV.bool rfl (hE0.trans (hx2.trans hxK))
        · have hbn : (x.f != y.f) = false := by rw [bne, hbf]; rfl
          have HBF := Lib.hid hbf; clear hbf
          go_enter Try.func14, Try.ntmps14
          go_wp2_with fail
          rw [← HW.out]
          refine HLG.out.mono ?_; rintro e w1 ⟨rfl, hx1⟩
          go_wp2_with fail
          refine (HLH.out w1 hx1).mono ?_; rintro e wM ⟨rfl, hy2⟩
          have hx2 := hx1.trans hy2
          clear hx1 hy2
          go_wp2_with fail
          refine (HLA.out wM hx2).mono ?_; rintro e w2 ⟨rfl, hy2⟩
          replace hx2 := hx2.trans hy2
          clear hy2
          clear HLA
          go_wp2_with fail
          refine (Places_c _ _ _ _ x l w2 (HX.out.ext hx2) (HI.out.ext hx2)).mono ?_; rintro e w3 ⟨v3, rfl, ho3, hy3⟩
          have hx3 := hx2.trans hy3
          have HI3 := Lib.hid ho3.ints; clear ho3
          go_wp2_with fail
          refine (Places_c _ _ _ _ y l w3 (HY.out.ext hx3) (HI.out.ext hx3)).mono ?_; rintro e w4 ⟨v4, rfl, ho4, hy4⟩
          have hx4 := hx3.trans hy4
          have HI4 := Lib.hid ho4.ints; clear ho4
          go_wp2_with fail
          refine (CanMeet_c _ _ _ _ _ _ x y w4 (HX.out.ext hx4) (HY.out.ext hx4)).mono ?_; rintro e w5 ⟨rfl, hy5⟩
          have hx5 := hx4.trans hy5
          have HIN := Lib.hid (in_law (x := x) (y := y) (l := l) HBF.out)
          generalize plK x l = K1 at *
          generalize plK y l = K2 at *
          generalize meet x y = M at *
          by_cases h1 : K1 = 0
          · by_cases h2 : K2 = 0
            · subst h1 h2
              obtain ⟨ht, hpl, hall⟩ := HIN.out rfl rfl
              rw [hpl] at HI3
              have HALL := Lib.hid hall
              have HT := Lib.hid ht
              clear hpl hall HIN ht
              generalize twoK x y = K at *
              generalize placesL x l = P at *
              generalize plL y l = Q at *
              obtain ⟨a3, c3, rfl, _, _, HP⟩ := HI3.out.open_
              have h35 := hy4.trans hy5
              go_wp2_with fail
              go_loopg [11] P.length (fun m i wr => ∃ k : Nat, k ≤ P.length ∧ P.length ≤ k + m ∧ i = .int .i64 k ∧ Ext w5 wr)
              case atStart => exact ⟨0, by omega, by omega, rfl, Ext.refl _⟩
              case round =>
                obtain ⟨k, hk, hk2, rfl, hB⟩ := hrel
                by_cases hlt : k < P.length
                · obtain ⟨b, o, rfl, hc⟩ := HP.out k hlt
                  replace hc := (h35.trans hB).keep hc
                  have HAL := Lib.hid (HALL.out k hlt)
                  generalize P[k]?.getD 0 = n at *
                  have HPA := Lib.hid (part_c _ v4 [n] Q (wr.alloc (.cells #[.int .i64 n] 3)) (ints_new wr [n] 1 rfl (by omega)) (HI4.out.ext (hy5.trans (hB.trans (Ext.alloc _ _)))))
                  rw [part_one] at HPA
                  generalize hasB Q n = q at *
                  have hB2 := hB.trans (Ext.alloc wr (.cells #[.int .i64 n] 3))
                  cases q
                  · clear HAL
                    go_wp2_with fail
                    refine HPA.out.mono ?_; rintro e w6 ⟨rfl, rfl⟩
                    go_wp2_with fail
                    go_roundg (gk-1)
                    case measure => omega
                    case rel => exact ⟨k+1, by omega, by omega, by go_num, hB2⟩
                  · obtain rfl := HAL.out rfl
                    clear HAL
                    go_wp2_with fail
                    refine HPA.out.mono ?_; rintro e w6 ⟨rfl, rfl⟩
                    go_wp2_with fail
                    go_roundg (gk-1)
                    case measure => omega
                    case rel => exact ⟨k+1, by omega, by omega, by go_num, hB2⟩
                · obtain rfl := HT.out
                  have hxB := hx5.trans hB
                  go_wp2_with fail
                  refine (known_c _).mono ?_; rintro e wK ⟨rfl, hxK⟩
                  go_wp2_with fail
                  go_ret
                  exact RV.bool rfl (hE0.trans (hxB.trans hxK))
            · have hk : (K2 != 0) = true := by simp [h2]
              subst h1
              clear HIN h2
              generalize twoK x y = K at *
              go_wp2_with fail
              refine (known_c _).mono ?_; rintro e wK ⟨rfl, hxK⟩
              go_wp2_with fail
              go_ret
              exact RV.bool rfl (hE0.trans (hx5.trans hxK))
          · have hk : (K1 != 0) = true := by simp [h1]
            clear HIN h1
            generalize twoK x y = K at *
            go_wp2_with fail
            refine (known_c _).mono ?_; rintro e wK ⟨rfl, hxK⟩
            go_wp2_with fail
            go_ret
            exact RV.bool rfl (hE0.trans (hx5.trans hxK))
      · go_enter Try.func14, Try.ntmps14
        go_wp2_with fail
        rw [← HW.out]
        refine HLG.out.mono ?_; rintro e w1 ⟨rfl, hx1⟩
        go_wp2_with fail
        refine (HLH.out w1 hx1).mono ?_; rintro e wM ⟨rfl, hy2⟩
        have hx2 := hx1.trans hy2
        clear hx1 hy2
        go_wp2_with fail
        refine (HLA.out wM hx2).mono ?_; rintro e w2 ⟨rfl, hy2⟩
        replace hx2 := hx2.trans hy2
        clear hy2
        clear HLA
        go_wp2_with fail
        refine (known_c _).mono ?_; rintro e wK ⟨rfl, hxK⟩
        go_wp2_with fail
        go_ret
        exact RV.bool rfl (hE0.trans (hx2.trans hxK))
    · go_enter Try.func14, Try.ntmps14
      go_wp2_with fail
      rw [← HW.out]
      refine HLG.out.mono ?_; rintro e w1 ⟨rfl, hx1⟩
      go_wp2_with fail
      refine (HLH.out w1 hx1).mono ?_; rintro e wM ⟨rfl, hy2⟩
      have hx2 := hx1.trans hy2
      clear hx1 hy2
      go_wp2_with fail
      refine (known_c _).mono ?_; rintro e wK ⟨rfl, hxK⟩
      go_wp2_with fail
      go_ret
      exact RV.bool rfl (hE0.trans (hx2.trans hxK))
  · go_enter Try.func14, Try.ntmps14
    go_wp2_with fail
    rw [← HW.out]
    refine HLG.out.mono ?_; rintro e w1 ⟨rfl, hx1⟩
    go_wp2_with fail
    refine (known_c _).mono ?_; rintro e wK ⟨rfl, hxK⟩
    go_wp2_with fail
    go_ret
    exact RV.bool rfl (hE0.trans (hx1.trans hxK))
end Go.Proofs.Ytojbamejhlaahaa

