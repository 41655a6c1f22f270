/- RuleMeets: for every input the call returns true. No condition. -/
import Derived.Test.YtojbamejhlaahaaLaw2
import Derived.Test.YtojbamejhlaahaaTwoC
namespace Go.Proofs.Ytojbamejhlaahaa
open Go.RowKit Go.Shelf
set_option linter.unusedVariables false
theorem sameInts_same (va vb : Value) (a : List Int) (w : World) (ha : Ints w va a) (hb : Ints w vb a) : Calls Try.prog 22 #[va, vb] w (RQ true w) := by have := sameInts_c va vb a a w ha hb; rwa [sameIntsB_refl] at this
theorem ins_may {a b : List Int} (h : insB a b = true) {n : Int} (h1 : -1 ≤ n) (h2 : n ≤ 5) (hn : mayB a n = true) : mayB b n = true := by
  unfold insB allB at h
  rw [List.all_eq_true] at h
  have := h (n + 1).toNat (by simp; omega)
  rw [show (((n + 1).toNat : Nat) : Int) - 1 = n by omega, hn] at this
  simpa using this
theorem setB_at {s : List Int} (h : setB s = true) (i : Nat) (hi : i < s.length) : -1 ≤ s[i]?.getD 0 ∧ s[i]?.getD 0 ≤ 5 := by
  unfold setB allB at h
  rw [List.all_eq_true] at h
  have := h i (by simpa using hi)
  simp only [setAt, Bool.and_eq_true] at this
  have h2 := this.1
  simp [nbB, inB] at h2; omega
theorem may_some {s : List Int} (h : setB s = true) : ∃ n : Int, -1 ≤ n ∧ n ≤ 5 ∧ mayB s n = true := by
  by_cases h0 : s.length = 0
  · exact ⟨0, by omega, by omega, by simp [mayB, h0]⟩
  · have := setB_at h 0 (by omega)
    exact ⟨_, this.1, this.2, by rw [mayB, hasB_yes (k := 0) (by omega) (by simp)]; simp⟩
theorem com_some {a b : List Int} {n : Int} (h1 : -1 ≤ n) (h2 : n ≤ 5) (h : bothB a b n = true) : ((comL a b).length == 0) = false := by
  rw [comL, List.length_map, sel, List.length_map]
  rw [beq_eq_false_iff_ne]
  intro hz
  rw [List.length_eq_zero_iff, List.filter_eq_nil_iff] at hz
  exact hz (n + 1).toNat (by simp; omega) (by rw [show (((n + 1).toNat : Nat) : Int) - 1 = n by omega]; exact h)
theorem ins_com {a b : List Int} (ha : setB a = true) (h : insB a b = true) : ((comL a b).length == 0) = false := by
  obtain ⟨n, h1, h2, h3⟩ := may_some ha
  exact com_some h1 h2 (by rw [bothB, h3, ins_may h h1 h2 h3]; rfl)
theorem spec_meet {x y : Rul} (h : spec x y = true) : meet x y = true := by
  unfold spec at h
  split at h
  · rename_i h2
    rw [meet, if_pos h2]
    unfold twoK at h2
    split at h2
    · rename_i h1
      have G := validR_zero h1
      simp only [specB, Bool.and_eq_true] at h
      rw [meetB, h.1, ins_com G.l h.2.1, ins_com G.r h.2.2]; rfl
    · rename_i h1; exact absurd h2 h1
  · cases h

set_option maxHeartbeats 2000000 in
set_option maxRecDepth 100000 in
theorem ruleMeets_c (tv lv rv tu lu ru : Value) (x y : Rul) (w : World) (hr : RulR w tv lv rv x) (hs : RulR w tu lu ru y) :
    Calls Try.prog 15 #[.agg #[.int .i64 x.f, tv, lv, rv, .int .i64 y.f, tu, lu, ru]] w (RV (.bool true) w) := by
  obtain ⟨a1, c1, rfl, _⟩ := hr.t.open_
  obtain ⟨a2, c2, rfl, _⟩ := hr.l.open_
  obtain ⟨a3, c3, rfl, _⟩ := hr.r.open_
  obtain ⟨a4, c4, rfl, _⟩ := hs.t.open_
  obtain ⟨a5, c5, rfl, _⟩ := hs.l.open_
  obtain ⟨a6, c6, rfl, _⟩ := hs.r.open_
  obtain ⟨wA, hwA⟩ : ∃ wA, wA = w.alloc (.cells #[.int .i64 x.f, .slice a1 x.t.length c1, .slice a2 x.l.length c2, .slice a3 x.r.length c3, .int .i64 y.f, .slice a4 y.t.length c4, .slice a5 y.l.length c5, .slice a6 y.r.length c6] 45) := ⟨_, rfl⟩
  have hE0 : Ext w wA := by rw [hwA]; exact Ext.alloc _ _
  have k0 : ∀ W, Ext wA W → W.cell? ⟨w.heap.size, 0, none⟩ = some (.int .i64 x.f) := by rw [hwA]; exact kept_alloc w _ _ rfl
  have k1 : ∀ W, Ext wA W → W.cell? ⟨w.heap.size, 1, none⟩ = some (.slice a1 x.t.length c1) := by rw [hwA]; exact kept_alloc w _ _ rfl
  have k2 : ∀ W, Ext wA W → W.cell? ⟨w.heap.size, 2, none⟩ = some (.slice a2 x.l.length c2) := by rw [hwA]; exact kept_alloc w _ _ rfl
  have k3 : ∀ W, Ext wA W → W.cell? ⟨w.heap.size, 3, none⟩ = some (.slice a3 x.r.length c3) := by rw [hwA]; exact kept_alloc w _ _ rfl
  have k4 : ∀ W, Ext wA W → W.cell? ⟨w.heap.size, 4, none⟩ = some (.int .i64 y.f) := by rw [hwA]; exact kept_alloc w _ _ rfl
  have k5 : ∀ W, Ext wA W → W.cell? ⟨w.heap.size, 5, none⟩ = some (.slice a4 y.t.length c4) := by rw [hwA]; exact kept_alloc w _ _ rfl
  have k6 : ∀ W, Ext wA W → W.cell? ⟨w.heap.size, 6, none⟩ = some (.slice a5 y.l.length c5) := by rw [hwA]; exact kept_alloc w _ _ rfl
  have k7 : ∀ W, Ext wA W → W.cell? ⟨w.heap.size, 7, none⟩ = some (.slice a6 y.r.length c6) := by rw [hwA]; exact kept_alloc w _ _ rfl
  have H0 : Ext wA wA := Ext.refl _
  have HX := Lib.hid (hr.ext hE0)
  have HY := Lib.hid (hs.ext hE0)
  have HLG := Lib.hid (Long_c _ _ _ x wA HX.out)
  have HLH := Lib.hid (fun W (hW : Ext wA W) => Long_c _ _ _ y W (HY.out.ext hW))
  have HW := Lib.hid hwA; clear hwA hr hs
  generalize hb1 : longR x = b1 at *
  have HBX := Lib.hid hb1; clear hb1
  generalize hb1 : longR y = b2 at *
  have HBY := Lib.hid hb1; clear hb1
  cases b1
  · cases b2
    · go_enter Try.func15, Try.ntmps15
      go_wp2_with fail
      rw [← HW.out]
      refine HLG.out.mono ?_; rintro e w1 ⟨rfl, hx1⟩
      go_wp2_with fail
      refine (HLH.out w1 hx1).mono ?_; rintro e w2 ⟨rfl, hy2⟩
      have hx2 := hx1.trans hy2
      clear hx1 hy2
      go_wp2_with fail
      refine (Both_c _ _ _ _ _ _ x y w2 (HX.out.ext hx2) (HY.out.ext hx2)).mono ?_; rintro e w3 ⟨v3, u3, rfl, ho3, hp3, hy3⟩
      have hx3 := hx2.trans hy3
      have HA3 := Lib.hid ho3.ints; have HB3 := Lib.hid hp3.ints; clear ho3 hp3
      go_wp2_with fail
      refine (rBoth_c _ _ _ _ _ _ x y w3 (HX.out.ext hx3) (HY.out.ext hx3)).mono ?_; rintro e w4 ⟨v4, u4, rfl, ho4, hp4, hy4⟩
      have hx4 := hx3.trans hy4
      have HA4 := Lib.hid ho4.ints; have HB4 := Lib.hid hp4.ints; clear ho4 hp4
      go_wp2_with fail
      refine (CanMeet_c _ _ _ _ _ _ x y w4 (HX.out.ext hx4) (HY.out.ext hx4)).mono ?_; rintro e w5 ⟨rfl, hy5⟩
      have hx5 := hx4.trans hy5
      go_wp2_with fail
      refine (rCanMeet_c _ _ _ _ _ _ x y w5 (HX.out.ext hx5) (HY.out.ext hx5)).mono ?_; rintro e w6 ⟨rfl, hy6⟩
      have hx6 := hx5.trans hy6
      have HIS := Lib.hid (fun W (hW : Ext wA W) => IsSpecial_c _ _ _ _ _ _ x y W (HX.out.ext hW) (HY.out.ext hW))
      have HSM := Lib.hid (spec_meet (x := x) (y := y))
      have h46 := hy5.trans hy6
      generalize metL x y = ML at *
      generalize metR x y = MR at *
      generalize meet x y = M at *
      generalize spec x y = SP at *
      generalize twoK x y = K at *
      go_wp2_with fail
      refine (sameInts_same v3 v4 _ w6 (HA3.out.ext (hy4.trans h46)) (HA4.out.ext h46)).mono ?_; rintro e w7 ⟨rfl, n7, hw7⟩
      have hy7 : Ext w6 w7 := by rw [hw7]; exact Ext.drewN _ _
      clear hw7
      have hx7 := hx6.trans hy7
      go_wp2_with fail
      refine (sameInts_same u3 u4 _ w7 (HB3.out.ext (hy4.trans (h46.trans hy7))) (HB4.out.ext (h46.trans hy7))).mono ?_; rintro e w8 ⟨rfl, n8, hw8⟩
      have hy8 : Ext w7 w8 := by rw [hw8]; exact Ext.drewN _ _
      clear hw8
      have hx8 := hx7.trans hy8
      go_wp2_with fail
      refine (HIS.out w8 hx8).mono ?_; rintro e w9 ⟨rfl, hy9⟩
      have hx9 := hx8.trans hy9
      by_cases h0 : K = 0
      · subst h0
        cases SP
        · clear HSM
          go_wp2_with fail
          refine (known_c _).mono ?_; rintro e wK ⟨rfl, hxK⟩
          go_wp2_with fail
          go_ret
          exact RV.bool rfl (hE0.trans (hx9.trans hxK))
        · obtain rfl := HSM.out rfl
          clear HSM
          go_wp2_with fail
          refine (known_c _).mono ?_; rintro e wK ⟨rfl, hxK⟩
          go_wp2_with fail
          go_ret
          exact RV.bool rfl (hE0.trans (hx9.trans hxK))
      · have hk : (K != 0) = true := by simp [h0]
        clear HSM h0
        go_wp2_with fail
        refine (known_c _).mono ?_; rintro e wK ⟨rfl, hxK⟩
        go_wp2_with fail
        go_ret
        exact RV.bool rfl (hE0.trans (hx9.trans hxK))
    · go_enter Try.func15, Try.ntmps15
      go_wp2_with fail
      rw [← HW.out]
      refine HLG.out.mono ?_; rintro e w1 ⟨rfl, hx1⟩
      go_wp2_with fail
      refine (HLH.out w1 hx1).mono ?_; rintro e w2 ⟨rfl, hy2⟩
      have hx2 := hx1.trans hy2
      clear hx1 hy2
      go_wp2_with fail
      refine (known_c _).mono ?_; rintro e wK ⟨rfl, hxK⟩
      go_wp2_with fail
      go_ret
      exact RV.bool rfl (hE0.trans (hx2.trans hxK))
  · go_enter Try.func15, Try.ntmps15
    go_wp2_with fail
    rw [← HW.out]
    refine HLG.out.mono ?_; rintro e w1 ⟨rfl, hx1⟩
    go_wp2_with fail
    refine (known_c _).mono ?_; rintro e wK ⟨rfl, hxK⟩
    go_wp2_with fail
    go_ret
    exact RV.bool rfl (hE0.trans (hx1.trans hxK))
end Go.Proofs.Ytojbamejhlaahaa

