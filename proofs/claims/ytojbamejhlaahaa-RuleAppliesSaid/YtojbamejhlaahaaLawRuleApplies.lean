/- RuleApplies: for every input the call returns true. No condition. -/
import Derived.Test.YtojbamejhlaahaaLaw2
import Derived.Test.YtojbamejhlaahaaWr
import Derived.Test.YtojbamejhlaahaaRulJ
namespace Go.Proofs.Ytojbamejhlaahaa
open Go.RowKit Go.Shelf
set_option linter.unusedVariables false
theorem sameInts_same (va vb : Value) (a : List Int) (w : World) (ha : Ints w va a) (hb : Ints w vb a) : Calls Try.prog 22 #[va, vb] w (RQ true w) := by have := sameInts_c va vb a a w ha hb; rwa [sameIntsB_refl] at this
theorem applyL_le (x : Rul) (l : List Int) (i : Int) : (applyL x l i).length ≤ 8 := by
  unfold applyL
  split
  · unfold apL
    cases placeB x l i
    · simp
    · show (shortL _).length ≤ 8
      unfold shortL
      split
      · simp
      · omega
  · simp

set_option maxHeartbeats 2000000 in
set_option maxRecDepth 100000 in
theorem ruleApplies_c (tv lv rv : Value) (x : Rul) (wv : Value) (l : List Int) (i : Int) (w : World) (h : RulR w tv lv rv x) (hw : Ints w wv l) (hi : (Lit.int .i64 i).wf = true) :
    Calls Try.prog 6 #[.agg #[.int .i64 x.f, tv, lv, rv], wv, .int .i64 i] w (RV (.bool true) w) := by
  obtain ⟨wA, hwA⟩ : ∃ wA, wA = w.alloc (.cells #[.int .i64 x.f, tv, lv, rv] 24) := ⟨_, rfl⟩
  have hE0 : Ext w wA := by rw [hwA]; exact Ext.alloc _ _
  have k0 : ∀ W, Ext wA W → W.cell? ⟨w.heap.size, 0, none⟩ = some (.int .i64 x.f) := by rw [hwA]; exact kept_alloc w _ _ rfl
  have k1 : ∀ W, Ext wA W → W.cell? ⟨w.heap.size, 1, none⟩ = some tv := by rw [hwA]; exact kept_alloc w _ _ rfl
  have k2 : ∀ W, Ext wA W → W.cell? ⟨w.heap.size, 2, none⟩ = some lv := by rw [hwA]; exact kept_alloc w _ _ rfl
  have k3 : ∀ W, Ext wA W → W.cell? ⟨w.heap.size, 3, none⟩ = some rv := by rw [hwA]; exact kept_alloc w _ _ rfl
  have H0 : Ext wA wA := Ext.refl _
  have HR := Lib.hid (h.ext hE0)
  have HLG := Lib.hid (Long_c tv lv rv x wA (h.ext hE0))
  have HI := Lib.hid (hw.ext hE0)
  have HLA := Lib.hid (fun W (hW : Ext wA W) => large_c wv l W (HI.out.ext hW))
  obtain ⟨aw, cw, rfl, _⟩ := hw.open_
  have hb2 : decide (100 < l.length) = false → l.length ≤ 100 := fun h => by simpa using h
  have HB2 := Lib.hid hb2; clear hb2
  have HW := Lib.hid hwA; clear hwA h hw
  generalize longR x = b1 at *
  generalize decide (100 < l.length) = b2 at *
  cases b1
  · cases b2
    · have hll := HB2.out rfl
      go_enter Try.func6, Try.ntmps6
      go_wp2_with fail
      rw [← HW.out]
      refine HLG.out.mono ?_; rintro e w1 ⟨rfl, hx1⟩
      go_wp2_with fail
      refine (HLA.out w1 hx1).mono ?_; rintro e w2 ⟨rfl, hy2⟩
      have hx2 := hx1.trans hy2
      clear hx1 hy2
      clear HLA HLG HB2
      have hown0 : (w2.alloc (.cells #[] 3)).ownsRow w2.heap.size 3 1 (.slice (some ⟨w2.heap.size, 0, none⟩) 0 0) 0 [] :=
        World.ownsRow_lit (size := 1) (e := 3) (base := w2.heap.size) w2 #[] 0 (by omega) (by unfold maxLen; omega) rfl
      have hraw := ((HI.out.ext hx2).ext (Ext.alloc w2 (.cells #[] 3))).raw
      have HOWN0 := Lib.hid hown0; clear hown0
      go_wp2_with (at_builtin; refine wpList_appendAll (n := 0) (m := l.length) (B := w2.heap.size) elInts rfl _ _ rfl rfl rfl HOWN0.out hraw (ints_one _) (by simp) (by omega) (by omega) ?_; intro v3 w3 ho3 hb3; have hy3 : Ext w2 w3 := (Ext.alloc _ _).upto hb3 (by omega); replace ho3 : OInts 3 w3 w2.heap.size v3 l := (by unfold OInts; simpa using ho3); have HI3 := Lib.hid ho3.ints; clear ho3 hb3 hraw; have hx3 := hx2.trans hy3)
      clear HOWN0
      refine (Apply_c _ _ _ _ x l i w3 (HR.out.ext hx3) HI3.out).mono ?_; rintro e w4 ⟨v4, rfl, ho4, hy4⟩
      obtain ⟨a4, c4, rfl, _⟩ := ho4.ints.open_
      have HI4 := Lib.hid ho4.ints
      have HO4 := Lib.hid ho4; clear ho4
      have hx4 := hx3.trans hy4
      go_wp2_with fail
      refine (rApply_c _ _ _ _ x l i w4 (HR.out.ext hx4) (HI.out.ext hx4) hi).mono ?_; rintro e w5 ⟨v5, rfl, ho5, hy5⟩
      have HI5 := Lib.hid ho5.ints; clear ho5
      have hx5 := hx4.trans hy5
      have hn4 := applyL_le x l i
      generalize hL : applyL x l i = L at *
      generalize hK : applyK x l i = K at *
      clear hL hK
      go_wp2_with fail
      refine (sameInts_same _ v5 _ w5 (HI4.out.ext hy5) HI5.out).mono ?_; rintro e w6 ⟨rfl, n6, hw6⟩
      have hy6 : Ext w5 w6 := by rw [hw6]; exact Ext.drewN _ _
      clear hw6
      have hx6 := hx5.trans hy6
      have H3W := Lib.hid (hy4.trans (hy5.trans hy6))
      have HO4 := Lib.hid (HO4.out.ext (hy5.trans hy6))
      go_wp2_with fail
      go_loopg [12] L.length (fun m i wr => ∃ (k : Nat) (l' : List Int), k ≤ L.length ∧ L.length ≤ k + m ∧ i = .int .i64 k ∧ l'.length = L.length ∧ Hid (OInts 3 wr w3.heap.size (.slice a4 L.length c4) l') ∧ Ext w3 wr)
      case atStart => exact ⟨0, _, by omega, by omega, rfl, rfl, HO4, H3W.out⟩
      case round =>
        obtain ⟨k, l', hk, hk2, rfl, hl', HOW, hB⟩ := hrel
        by_cases hlt : k < L.length
        · obtain ⟨r, rc, he, hrc, hrm, hBr, hcur, hcell, hfr⟩ := HOW.out.spot (i := k) (by omega)
          injection he with h1 h2 h3
          subst h1 h3
          rw [hl'] at hrc
          clear h2 hcur
          go_wp2_with fail
          go_roundg (gk-1)
          case measure => omega
          case rel =>
            obtain ⟨l2, h4, h5⟩ := HOW.out.write (r := r) (i := k) (x := -1)
            exact ⟨k + 1, l2, by omega, by omega, by go_num, h4.trans hl', Lib.hid h5, hB.setCell hBr _ _⟩
        · have hX := hx3.trans hB
          clear HOW
          go_wp2_with fail
          refine (sameInts_same v3 _ l _ (HI3.out.ext hB) (HI.out.ext hX)).mono ?_; rintro e wS ⟨rfl, nS, rfl⟩
          go_wp2_with fail
          refine (known_c _).mono ?_; rintro e wK ⟨rfl, hxK⟩
          go_wp2_with fail
          go_ret
          exact RV.bool rfl (hE0.trans (hX.trans ((Ext.drewN _ _).trans hxK)))
    · go_enter Try.func6, Try.ntmps6
      go_wp2_with fail
      rw [← HW.out]
      refine HLG.out.mono ?_; rintro e w1 ⟨rfl, hx1⟩
      go_wp2_with fail
      refine (HLA.out w1 hx1).mono ?_; rintro e w2 ⟨rfl, hy2⟩
      have hx2 := hx1.trans hy2
      clear hx1 hy2
      go_wp2_with fail
      refine (known_c _).mono ?_; rintro e w3 ⟨rfl, hx3⟩
      go_wp2_with fail
      go_ret
      exact RV.bool rfl (hE0.trans (hx2.trans hx3))
  · go_enter Try.func6, Try.ntmps6
    go_wp2_with fail
    rw [← HW.out]
    refine HLG.out.mono ?_; rintro e w1 ⟨rfl, hx1⟩
    go_wp2_with fail
    refine (known_c _).mono ?_; rintro e w3 ⟨rfl, hx3⟩
    go_wp2_with fail
    go_ret
    exact RV.bool rfl (hE0.trans (hx1.trans hx3))
end Go.Proofs.Ytojbamejhlaahaa

