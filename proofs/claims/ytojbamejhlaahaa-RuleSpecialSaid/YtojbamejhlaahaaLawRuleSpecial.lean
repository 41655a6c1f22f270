/- RuleSpecial: for every input the call returns true. No condition. -/
import Derived.Test.YtojbamejhlaahaaLaw2
import Derived.Test.YtojbamejhlaahaaTwoC
namespace Go.Proofs.Ytojbamejhlaahaa
open Go.RowKit Go.Shelf
set_option linter.unusedVariables false
def partB (a b : List Int) : Bool := allB a.length fun i => hasB b (a[i]?.getD 0)
set_option maxHeartbeats 400000 in
theorem part_c (va vb : Value) (a b : List Int) (w : World) (ha : Ints w va a) (hb : Ints w vb b) : Calls Try.prog 44 #[va, vb] w (RP (.bool (partB a b)) w) := by
  have HB := Lib.hid hb
  obtain ⟨aa, ca, rfl, hla, hma, HA⟩ := ha.open_
  clear ha hb
  go_enter Try.func44, Try.ntmps44
  go_wp2_with fail
  go_loopg [5] a.length (fun m i wr => ∃ k : Nat, k ≤ a.length ∧ a.length ≤ k + m ∧ i = .int .i64 k ∧ w = wr ∧ Hid (∀ j, j < k → hasB b (a[j]?.getD 0) = true))
  case atStart => exact ⟨0, by omega, by omega, rfl, rfl, fun j hj => by omega⟩
  case round =>
    obtain ⟨k, hk, hk2, rfl, rfl, hE⟩ := hrel
    by_cases hlt : k < a.length
    · obtain ⟨ba, oa, rfl, hc1⟩ := HA.out k hlt
      have HC := Lib.hid (has_c vb b (a[k]?.getD 0) w HB.out)
      have HST := Lib.hid (range_step (f := fun j => hasB b (a[j]?.getD 0)) hE.out)
      have HFL : Hid (hasB b (a[k]?.getD 0) = false → partB a b = false) := fun h => allB_false hlt h
      generalize a[k]?.getD 0 = y at *
      generalize hasB b y = q at *
      cases q
      · have HF := Lib.hid (HFL.out rfl)
        go_wp2_with fail
        refine HC.out.mono ?_; rintro e w1 ⟨rfl, rfl⟩
        go_wp2_with fail
        go_ret
        exact RP.bool HF.out.symm
      · have HF := Lib.hid (HST.out rfl)
        go_wp2_with fail
        refine HC.out.mono ?_; rintro e w1 ⟨rfl, rfl⟩
        go_wp2_with fail
        go_roundg (gk-1)
        case measure => omega
        case rel => exact ⟨k+1, by omega, by omega, by go_num, rfl, HF.out⟩
    · have HF := Lib.hid (show partB a b = true from allB_true (fun j hj => hE.out j (by omega)))
      go_wp2_with fail
      go_ret
      exact RP.bool HF.out.symm
theorem ins_may {a b : List Int} (h : insB a b = true) {n : Int} (h1 : -1 ≤ n) (h2 : n ≤ 5) (hn : mayB a n = true) : mayB b n = true := by
  unfold insB allB at h
  rw [List.all_eq_true] at h
  have := h (n + 1).toNat (by simp; omega)
  rw [show (((n + 1).toNat : Nat) : Int) - 1 = n by omega, hn] at this
  simpa using this
theorem lng_eq {x y : Rul} (h : x.f = y.f) : lng x = lng y := by unfold lng; rw [h]
theorem spec_at {x y : Rul} (h : specB x y = true) {l : List Int} (hl : sndB l = true) (i : Int) (hp : placeAt x l i = true) : placeAt y l i = true := by
  simp only [specB, Bool.and_eq_true, beq_iff_eq] at h
  obtain ⟨hf, h1, h2⟩ := h
  simp only [placeAt, Bool.and_eq_true] at hp ⊢
  obtain ⟨p1, p2, p3⟩ := hp
  refine ⟨by rw [← hf]; exact p1, ins_may h1 (atI_in hl _).1 (atI_in hl _).2 p2, ?_⟩
  rw [← lng_eq hf]
  exact ins_may h2 (atI_in hl _).1 (atI_in hl _).2 p3
theorem spec_part {x y : Rul} (h : specB x y = true) {l : List Int} (hl : sndB l = true) : partB (placesL x l) (placesL y l) = true := by
  refine allB_true fun j hj => ?_
  have hf : x.f = y.f := by simp only [specB, Bool.and_eq_true, beq_iff_eq] at h; exact h.1
  obtain ⟨i, hi, hp, he⟩ := sel_get (n := l.length + 1 - lng x) (f := fun i => placeAt x l i) (k := j) hj
  have he' : (placesL x l)[j]?.getD 0 = (i : Int) := he
  rw [he', hasB_eq]
  simp only [List.contains_eq_mem, decide_eq_true_eq]
  exact mem_sel.2 ⟨i, by rw [← lng_eq hf]; exact hi, spec_at h hl _ hp, rfl⟩
theorem spec_law {x y : Rul} {l : List Int} (h : spec x y = true) (hk : plK x l = 0) : plK y l = 0 ∧ partB (plL x l) (plL y l) = true := by
  unfold spec at h
  split at h
  · rename_i h2
    have hk2 := hk
    rw [plK, wordK] at hk2
    unfold twoK at h2
    split at hk2
    · rename_i h1
      rw [if_pos h1] at h2
      have hy : wordK y l = 0 := by rw [wordK, if_pos h2]; exact hk2
      refine ⟨hy, ?_⟩
      rw [plL, plL, if_pos hy, if_pos (show wordK x l = 0 from hk)]
      exact spec_part h (validW_zero hk2).2
    · rename_i h1; exact absurd hk2 h1
  · cases h

set_option maxHeartbeats 2000000 in
set_option maxRecDepth 100000 in
theorem ruleSpecial_c (tv lv rv tu lu ru : Value) (x y : Rul) (wv : Value) (l : List Int) (w : World) (hr : RulR w tv lv rv x) (hs : RulR w tu lu ru y) (hw : Ints w wv l) :
    Calls Try.prog 11 #[.agg #[.int .i64 x.f, tv, lv, rv, .int .i64 y.f, tu, lu, ru], wv] w (RV (.bool true) w) := by
  obtain ⟨a1, c1, rfl, _⟩ := hr.t.open_
  obtain ⟨a2, c2, rfl, _⟩ := hr.l.open_
  obtain ⟨a3, c3, rfl, _⟩ := hr.r.open_
  obtain ⟨a4, c4, rfl, _⟩ := hs.t.open_
  obtain ⟨a5, c5, rfl, _⟩ := hs.l.open_
  obtain ⟨a6, c6, rfl, _⟩ := hs.r.open_
  obtain ⟨wA, hwA⟩ : ∃ wA, wA = w.alloc (.cells #[.int .i64 x.f, .slice a1 x.t.length c1, .slice a2 x.l.length c2, .slice a3 x.r.length c3, .int .i64 y.f, .slice a4 y.t.length c4, .slice a5 y.l.length c5, .slice a6 y.r.length c6] 45) := ⟨_, rfl⟩
  have hE0 : Ext w wA := by rw [hwA]; exact Ext.alloc _ _
  have k0 : ∀ W, Ext wA W → W.cell? ⟨w.heap.size, 0, none⟩ = some (.int .i64 x.f) := by rw [hwA]; exact kept_alloc w _ _ rfl
  have k1 : ∀ W, Ext wA W → W.cell? ⟨w.heap.size, 1, none⟩ = some (.slice a1 x.t.length c1) := by rw [hwA]; exact kept_alloc w _ _ rfl
  have k2 : ∀ W, Ext wA W → W.cell? ⟨w.heap.size, 2, none⟩ = some (.slice a2 x.l.length c2) := by rw [hwA]; exact kept_alloc w _ _ rfl
  have k3 : ∀ W, Ext wA W → W.cell? ⟨w.heap.size, 3, none⟩ = some (.slice a3 x.r.length c3) := by rw [hwA]; exact kept_alloc w _ _ rfl
  have k4 : ∀ W, Ext wA W → W.cell? ⟨w.heap.size, 4, none⟩ = some (.int .i64 y.f) := by rw [hwA]; exact kept_alloc w _ _ rfl
  have k5 : ∀ W, Ext wA W → W.cell? ⟨w.heap.size, 5, none⟩ = some (.slice a4 y.t.length c4) := by rw [hwA]; exact kept_alloc w _ _ rfl
  have k6 : ∀ W, Ext wA W → W.cell? ⟨w.heap.size, 6, none⟩ = some (.slice a5 y.l.length c5) := by rw [hwA]; exact kept_alloc w _ _ rfl
  have k7 : ∀ W, Ext wA W → W.cell? ⟨w.heap.size, 7, none⟩ = some (.slice a6 y.r.length c6) := by rw [hwA]; exact kept_alloc w _ _ rfl
  have H0 : Ext wA wA := Ext.refl _
  have HX := Lib.hid (hr.ext hE0)
  have HY := Lib.hid (hs.ext hE0)
  have HLG := Lib.hid (Long_c _ _ _ x wA HX.out)
  have HLH := Lib.hid (fun W (hW : Ext wA W) => Long_c _ _ _ y W (HY.out.ext hW))
  have HI := Lib.hid (hw.ext hE0)
  obtain ⟨aw, cw, rfl, _⟩ := hw.open_
  have HLA := Lib.hid (fun W (hW : Ext wA W) => large_c _ l W (HI.out.ext hW))
  have hb2 : decide (100 < l.length) = false → l.length ≤ 100 := fun h => by simpa using h
  have HB2 := Lib.hid hb2; clear hb2
  have HW := Lib.hid hwA; clear hwA hr hs hw
  generalize hb1 : longR x = b1 at *
  have HBX := Lib.hid hb1; clear hb1
  generalize hb1 : longR y = b2 at *
  have HBY := Lib.hid hb1; clear hb1
  generalize decide (100 < l.length) = b3 at *
  cases b1
  · cases b2
    · cases b3
      · have hll := HB2.out rfl
        go_enter Try.func11, Try.ntmps11
        go_wp2_with fail
        rw [← HW.out]
        refine HLG.out.mono ?_; rintro e w1 ⟨rfl, hx1⟩
        go_wp2_with fail
        refine (HLH.out w1 hx1).mono ?_; rintro e wM ⟨rfl, hy2⟩
        have hx2 := hx1.trans hy2
        clear hx1 hy2
        go_wp2_with fail
        refine (HLA.out wM hx2).mono ?_; rintro e w2 ⟨rfl, hy2⟩
        replace hx2 := hx2.trans hy2
        clear hy2
        clear HLA
        go_wp2_with fail
        refine (IsSpecial_c _ _ _ _ _ _ x y w2 (HX.out.ext hx2) (HY.out.ext hx2)).mono ?_; rintro e w3 ⟨rfl, hy3⟩
        have hx3 := hx2.trans hy3
        go_wp2_with fail
        refine (rIsSpecial_c _ _ _ _ _ _ x y w3 (HX.out.ext hx3) (HY.out.ext hx3)).mono ?_; rintro e w4 ⟨rfl, hy4⟩
        have hx4 := hx3.trans hy4
        have HSP := Lib.hid (spec_law (x := x) (y := y) (l := l))
        generalize spec x y = B at *
        generalize twoK x y = K at *
        go_wp2_with fail
        refine (Places_c _ _ _ _ x l w4 (HX.out.ext hx4) (HI.out.ext hx4)).mono ?_; rintro e w5 ⟨v5, rfl, ho, hy5⟩
        have hx5 := hx4.trans hy5
        have HI5 := Lib.hid ho.ints; clear ho
        go_wp2_with fail
        refine (Places_c _ _ _ _ y l w5 (HY.out.ext hx5) (HI.out.ext hx5)).mono ?_; rintro e w6 ⟨v6, rfl, ho, hy6⟩
        have hx6 := hx5.trans hy6
        have HI6 := Lib.hid ho.ints; clear ho
        have HPA := Lib.hid (part_c v5 v6 _ _ w6 (HI5.out.ext hy6) HI6.out)
        generalize plK x l = k1 at *
        generalize plK y l = k2 at *
        generalize partB (plL x l) (plL y l) = pb at *
        cases B
        · clear HSP HPA
          go_wp2_with fail
          refine (known_c _).mono ?_; rintro e wK ⟨rfl, hxK⟩
          go_wp2_with fail
          go_ret
          exact RV.bool rfl (hE0.trans (hx6.trans hxK))
        · by_cases h0 : k1 = 0
          · obtain ⟨rfl, rfl⟩ := HSP.out rfl h0
            subst h0
            clear HSP
            go_wp2_with fail
            refine HPA.out.mono ?_; rintro e w7 ⟨rfl, rfl⟩
            go_wp2_with fail
            refine (known_c _).mono ?_; rintro e wK ⟨rfl, hxK⟩
            go_wp2_with fail
            go_ret
            exact RV.bool rfl (hE0.trans (hx6.trans hxK))
          · have hk : (k1 != 0) = true := by simp [h0]
            clear HSP HPA h0
            go_wp2_with fail
            refine (known_c _).mono ?_; rintro e wK ⟨rfl, hxK⟩
            go_wp2_with fail
            go_ret
            exact RV.bool rfl (hE0.trans (hx6.trans hxK))
      · go_enter Try.func11, Try.ntmps11
        go_wp2_with fail
        rw [← HW.out]
        refine HLG.out.mono ?_; rintro e w1 ⟨rfl, hx1⟩
        go_wp2_with fail
        refine (HLH.out w1 hx1).mono ?_; rintro e wM ⟨rfl, hy2⟩
        have hx2 := hx1.trans hy2
        clear hx1 hy2
        go_wp2_with fail
        refine (HLA.out wM hx2).mono ?_; rintro e w2 ⟨rfl, hy2⟩
        replace hx2 := hx2.trans hy2
        clear hy2
        clear HLA
        go_wp2_with fail
        refine (known_c _).mono ?_; rintro e wK ⟨rfl, hxK⟩
        go_wp2_with fail
        go_ret
        exact RV.bool rfl (hE0.trans (hx2.trans hxK))
    · go_enter Try.func11, Try.ntmps11
      go_wp2_with fail
      rw [← HW.out]
      refine HLG.out.mono ?_; rintro e w1 ⟨rfl, hx1⟩
      go_wp2_with fail
      refine (HLH.out w1 hx1).mono ?_; rintro e wM ⟨rfl, hy2⟩
      have hx2 := hx1.trans hy2
      clear hx1 hy2
      go_wp2_with fail
      refine (known_c _).mono ?_; rintro e wK ⟨rfl, hxK⟩
      go_wp2_with fail
      go_ret
      exact RV.bool rfl (hE0.trans (hx2.trans hxK))
  · go_enter Try.func11, Try.ntmps11
    go_wp2_with fail
    rw [← HW.out]
    refine HLG.out.mono ?_; rintro e w1 ⟨rfl, hx1⟩
    go_wp2_with fail
    refine (known_c _).mono ?_; rintro e wK ⟨rfl, hxK⟩
    go_wp2_with fail
    go_ret
    exact RV.bool rfl (hE0.trans (hx1.trans hxK))
end Go.Proofs.Ytojbamejhlaahaa

