/- Two rules: the reference's special; which can meet, and the neighbors of both; both packages. -/
import Derived.Test.YtojbamejhlaahaaTwoB
namespace Go.Proofs.Ytojbamejhlaahaa
open Go.RowKit Go.Shelf
set_option linter.unusedVariables false


set_option maxHeartbeats 2000000 in
set_option maxRecDepth 100000 in
theorem rIsSpecial_c (tv lv rv tu lu ru : Value) (x y : Rul) (w : World) (hr : RulR w tv lv rv x) (hs : RulR w tu lu ru y) : Calls Try.prog 43 #[.agg #[.int .i64 x.f, tv, lv, rv], .agg #[.int .i64 y.f, tu, lu, ru]] w (RV (.tuple #[.bool (spec x y), .int .i64 (twoK x y)]) w) := by
  obtain ⟨wA, hwA⟩ : ∃ wA, wA = (w.alloc (.cells #[.int .i64 x.f, tv, lv, rv] 24)).alloc (.cells #[.int .i64 y.f, tu, lu, ru] 24) := ⟨_, rfl⟩
  have hE0 : Ext w wA := by rw [hwA]; exact (Ext.alloc _ _).trans (Ext.alloc _ _)
  have k0 : ∀ W, Ext wA W → W.cell? ⟨w.heap.size, 0, none⟩ = some (.int .i64 x.f) := by rw [hwA]; exact kept_alloc2 w _ _ _ _ rfl
  have k1 : ∀ W, Ext wA W → W.cell? ⟨w.heap.size, 1, none⟩ = some tv := by rw [hwA]; exact kept_alloc2 w _ _ _ _ rfl
  have k2 : ∀ W, Ext wA W → W.cell? ⟨w.heap.size, 2, none⟩ = some lv := by rw [hwA]; exact kept_alloc2 w _ _ _ _ rfl
  have k3 : ∀ W, Ext wA W → W.cell? ⟨w.heap.size, 3, none⟩ = some rv := by rw [hwA]; exact kept_alloc2 w _ _ _ _ rfl
  have m0 : ∀ W, Ext wA W → W.cell? ⟨w.heap.size + 1, 0, none⟩ = some (.int .i64 y.f) := by rw [hwA]; exact kept_alloc2' w _ _ _ _ rfl
  have m1 : ∀ W, Ext wA W → W.cell? ⟨w.heap.size + 1, 1, none⟩ = some tu := by rw [hwA]; exact kept_alloc2' w _ _ _ _ rfl
  have m2 : ∀ W, Ext wA W → W.cell? ⟨w.heap.size + 1, 2, none⟩ = some lu := by rw [hwA]; exact kept_alloc2' w _ _ _ _ rfl
  have m3 : ∀ W, Ext wA W → W.cell? ⟨w.heap.size + 1, 3, none⟩ = some ru := by rw [hwA]; exact kept_alloc2' w _ _ _ _ rfl
  have H0 : Ext wA wA := Ext.refl _
  have HX := Lib.hid (hr.ext hE0)
  have HY := Lib.hid (hs.ext hE0)
  have HT := Lib.hid (rtwo_c tv lv rv tu lu ru x y wA HX.out HY.out)
  have HW := Lib.hid hwA
  clear hwA hr hs
  unfold spec
  by_cases h0 : twoK x y = 0
  · rw [if_pos h0]
    rw [h0] at HT ⊢
    clear h0
    have HIL := Lib.hid (fun W (hW : Ext wA W) => inside_c lv lu x.l y.l W (HX.out.l.ext hW) (HY.out.l.ext hW))
    have HIR := Lib.hid (fun W (hW : Ext wA W) => inside_c rv ru x.r y.r W (HX.out.r.ext hW) (HY.out.r.ext hW))
    have hsp : specB x y = (x.f == y.f && (insB x.l y.l && insB x.r y.r)) := rfl
    have HSP := Lib.hid hsp; clear hsp
    generalize insB x.l y.l = E1 at *
    generalize insB x.r y.r = E2 at *
    generalize specB x y = SB at *
    cases hbf : (x.f == y.f)
    · rw [hbf] at HSP
      go_enter Try.func43, Try.ntmps43
      go_wp2_with fail
      rw [← HW.out]
      refine HT.out.mono ?_; rintro e w1 ⟨rfl, hx1⟩
      go_wp2_with fail
      go_ret2
      exact RV.mk (by rw [HSP.out]; rfl) (hE0.trans hx1)
    · rw [hbf] at HSP
      cases E1
      · go_enter Try.func43, Try.ntmps43
        go_wp2_with fail
        rw [← HW.out]
        refine HT.out.mono ?_; rintro e w1 ⟨rfl, hx1⟩
        go_wp2_with fail
        refine (HIL.out w1 hx1).mono ?_; rintro e w2 ⟨rfl, hx2⟩
        have hx12 := hx1.trans hx2
        go_wp2_with fail
        go_ret2
        exact RV.mk (by rw [HSP.out]; rfl) (hE0.trans (hx1.trans hx2))
      · go_enter Try.func43, Try.ntmps43
        go_wp2_with fail
        rw [← HW.out]
        refine HT.out.mono ?_; rintro e w1 ⟨rfl, hx1⟩
        go_wp2_with fail
        refine (HIL.out w1 hx1).mono ?_; rintro e w2 ⟨rfl, hx2⟩
        have hx12 := hx1.trans hx2
        go_wp2_with fail
        refine (HIR.out w2 (hx1.trans hx2)).mono ?_; rintro e w3 ⟨rfl, hx3⟩
        go_wp2_with fail
        go_ret2
        exact RV.mk (by rw [HSP.out]; rfl) (hE0.trans (hx1.trans (hx2.trans hx3)))
  · rw [if_neg h0]
    have hk : (twoK x y != 0) = true := by simp [h0]
    generalize twoK x y = k at *
    clear h0
    go_enter Try.func43, Try.ntmps43
    go_wp2_with fail
    rw [← HW.out]
    refine HT.out.mono ?_; rintro e w1 ⟨rfl, hx1⟩
    go_wp2_with fail
    go_ret2
    exact RV.mk rfl (hE0.trans hx1)

/-! ## meeting -/
def meetB (x y : Rul) : Bool := x.f == y.f && (!((comL x.l y.l).length == 0) && !((comL x.r y.r).length == 0))
def meet (x y : Rul) : Bool := if twoK x y = 0 then meetB x y else false
def metL (x y : Rul) : List Int := if meet x y then comL x.l y.l else []
def metR (x y : Rul) : List Int := if meet x y then comL x.r y.r else []
/-- two lists, a bool and an error code -/
def R4 (l1 l2 : List Int) (b : Bool) (k : Int) (w : World) (e : Ending) (w' : World) : Prop := ∃ v1 v2, e = .returned (.tuple #[v1, v2, .bool b, .int .i64 k]) ∧ OInts 3 w' w.heap.size v1 l1 ∧ OInts 3 w' w.heap.size v2 l2 ∧ Ext w w'
theorem com_zero (a b : List Int) : ((comL a b).length == 0) = (!(bothB a b (-1)) && (!(bothB a b 0) && (!(bothB a b 1) && (!(bothB a b 2) && (!(bothB a b 3) && (!(bothB a b 4) && !(bothB a b 5))))))) := by
  have h := allB7 (fun i => !(bothB a b ((i : Int) - 1)))
  have h2 : allB 7 (fun i => !(bothB a b ((i : Int) - 1))) = ((comL a b).length == 0) := by
    rw [comL, List.length_map, sel, List.length_map]
    unfold allB
    rw [Bool.eq_iff_iff, List.all_eq_true, beq_iff_eq, List.length_eq_zero_iff, List.filter_eq_nil_iff]
    simp
  rw [← h2, h]; rfl
theorem eq_false_b (m : Bool) : (m == false) = !m := by cases m <;> rfl
theorem com_side (a b : List Int) : ((comL a b).length == 0) = (bothB a b (-1) == false && (bothB a b 0 == false && (bothB a b 1 == false && (bothB a b 2 == false && (bothB a b 3 == false && (bothB a b 4 == false && bothB a b 5 == false)))))) := by
  rw [com_zero]; simp only [eq_false_b]

set_option maxHeartbeats 2000000 in
set_option maxRecDepth 100000 in
theorem Both_c (tv lv rv tu lu ru : Value) (x y : Rul) (w : World) (hr : RulR w tv lv rv x) (hs : RulR w tu lu ru y) : Calls Try.prog 52 #[.agg #[.int .i64 x.f, tv, lv, rv], .agg #[.int .i64 y.f, tu, lu, ru]] w (R4 (metL x y) (metR x y) (meet x y) (twoK x y) w) := by
  obtain ⟨wA, hwA⟩ : ∃ wA, wA = (w.alloc (.cells #[.int .i64 x.f, tv, lv, rv] 24)).alloc (.cells #[.int .i64 y.f, tu, lu, ru] 24) := ⟨_, rfl⟩
  have hE0 : Ext w wA := by rw [hwA]; exact (Ext.alloc _ _).trans (Ext.alloc _ _)
  have k0 : ∀ W, Ext wA W → W.cell? ⟨w.heap.size, 0, none⟩ = some (.int .i64 x.f) := by rw [hwA]; exact kept_alloc2 w _ _ _ _ rfl
  have k1 : ∀ W, Ext wA W → W.cell? ⟨w.heap.size, 1, none⟩ = some tv := by rw [hwA]; exact kept_alloc2 w _ _ _ _ rfl
  have k2 : ∀ W, Ext wA W → W.cell? ⟨w.heap.size, 2, none⟩ = some lv := by rw [hwA]; exact kept_alloc2 w _ _ _ _ rfl
  have k3 : ∀ W, Ext wA W → W.cell? ⟨w.heap.size, 3, none⟩ = some rv := by rw [hwA]; exact kept_alloc2 w _ _ _ _ rfl
  have m0 : ∀ W, Ext wA W → W.cell? ⟨w.heap.size + 1, 0, none⟩ = some (.int .i64 y.f) := by rw [hwA]; exact kept_alloc2' w _ _ _ _ rfl
  have m1 : ∀ W, Ext wA W → W.cell? ⟨w.heap.size + 1, 1, none⟩ = some tu := by rw [hwA]; exact kept_alloc2' w _ _ _ _ rfl
  have m2 : ∀ W, Ext wA W → W.cell? ⟨w.heap.size + 1, 2, none⟩ = some lu := by rw [hwA]; exact kept_alloc2' w _ _ _ _ rfl
  have m3 : ∀ W, Ext wA W → W.cell? ⟨w.heap.size + 1, 3, none⟩ = some ru := by rw [hwA]; exact kept_alloc2' w _ _ _ _ rfl
  have H0 : Ext wA wA := Ext.refl _
  have HX := Lib.hid (hr.ext hE0)
  have HY := Lib.hid (hs.ext hE0)
  have HT := Lib.hid (two_c tv lv rv tu lu ru x y wA HX.out HY.out)
  have HW := Lib.hid hwA
  clear hwA hr hs
  have HM := Lib.hid (show meet x y = (if twoK x y = 0 then meetB x y else false) from rfl)
  have HL := Lib.hid (show metL x y = if meet x y then comL x.l y.l else [] from rfl)
  have HRR := Lib.hid (show metR x y = if meet x y then comL x.r y.r else [] from rfl)
  by_cases h0 : twoK x y = 0
  · rw [h0] at HT ⊢
    have HBO := Lib.hid (fun W (hW : Ext wA W) => both_c tv lv rv tu lu ru x y W (HX.out.ext hW) (HY.out.ext hW))
    have HMB := Lib.hid (show meet x y = meetB x y by rw [HM.out, if_pos h0])
    have HMM := Lib.hid (show meetB x y = (x.f == y.f && (!((comL x.l y.l).length == 0) && !((comL x.r y.r).length == 0))) from rfl)
    have hz1 := com_side x.l y.l
    have hz2 := com_side x.r y.r
    unfold bothV bothA at HBO
    have HSL := Lib.hid (fun W => set_c x.l y.l W)
    have HSR := Lib.hid (fun W => set_c x.r y.r W)
    unfold bothV bothA at HSL HSR
    clear h0
    generalize bothB x.l y.l (-1) = p0 at *
    generalize bothB x.l y.l 0 = p1 at *
    generalize bothB x.l y.l 1 = p2 at *
    generalize bothB x.l y.l 2 = p3 at *
    generalize bothB x.l y.l 3 = p4 at *
    generalize bothB x.l y.l 4 = p5 at *
    generalize bothB x.l y.l 5 = p6 at *
    generalize bothB x.r y.r (-1) = q0 at *
    generalize bothB x.r y.r 0 = q1 at *
    generalize bothB x.r y.r 1 = q2 at *
    generalize bothB x.r y.r 2 = q3 at *
    generalize bothB x.r y.r 3 = q4 at *
    generalize bothB x.r y.r 4 = q5 at *
    generalize bothB x.r y.r 5 = q6 at *
    have hql := fun W => run_eql_side W p0 p1 p2 p3 p4 p5 p6 false false false false false false false
    have hqr := fun W => run_eql_side W q0 q1 q2 q3 q4 q5 q6 false false false false false false false
    have HZ1 := Lib.hid hz1; have HZ2 := Lib.hid hz2
    clear hz1 hz2
    generalize (p0 == false && (p1 == false && (p2 == false && (p3 == false && (p4 == false && (p5 == false && p6 == false)))))) = E1 at *
    generalize (q0 == false && (q1 == false && (q2 == false && (q3 == false && (q4 == false && (q5 == false && q6 == false)))))) = E2 at *
    cases hbf : (x.f == y.f)
    · obtain ⟨e1, e2, e3⟩ : meet x y = false ∧ metL x y = [] ∧ metR x y = [] := by
        have : meet x y = false := by rw [HMB.out, HMM.out, hbf]; rfl
        exact ⟨this, by rw [HL.out, this]; rfl, by rw [HRR.out, this]; rfl⟩
      rw [e1, e2, e3]
      clear e1 e2 e3
      have hbn : (x.f != y.f) = true := by rw [bne, hbf]; rfl
      clear hbf
      go_enter Try.func52, Try.ntmps52
      go_wp2_with fail
      rw [← HW.out]
      refine HT.out.mono ?_; rintro e w1 ⟨rfl, hx1⟩
      go_wp2_with fail
      refine (HBO.out w1 hx1).mono ?_; rintro e w2 ⟨rfl, hy2⟩
      have hx2 := hx1.trans hy2
      clear hx1 hy2
      have hx4 : Ext wA ((w2.alloc (.cells #[.bool p0, .bool p1, .bool p2, .bool p3, .bool p4, .bool p5, .bool p6] 71)).alloc (.cells #[.bool q0, .bool q1, .bool q2, .bool q3, .bool q4, .bool q5, .bool q6] 71)) := hx2.trans ((Ext.alloc _ _).trans (Ext.alloc _ _))
      go_wp2_with fail
      ((try simp only [Exit.inBlock, Exit.then]); refine bodyPost_ret (results_tmp4 rfl _ _ _) rfl ?_)
      exact ⟨_, _, rfl, OInts.nil _ _ _, OInts.nil _ _ _, hE0.trans hx4⟩
    · cases E1
      · cases E2
        · obtain ⟨e1, e2, e3⟩ : meet x y = true ∧ metL x y = comL x.l y.l ∧ metR x y = comL x.r y.r := by
            have : meet x y = true := by rw [HMB.out, HMM.out, hbf, HZ1.out, HZ2.out]; rfl
            exact ⟨this, by rw [HL.out, this]; rfl, by rw [HRR.out, this]; rfl⟩
          rw [e1, e2, e3]
          clear e1 e2 e3
          have hbn : (x.f != y.f) = false := by rw [bne, hbf]; rfl
          clear hbf
          go_enter Try.func52, Try.ntmps52
          go_wp2_with fail
          rw [← HW.out]
          refine HT.out.mono ?_; rintro e w1 ⟨rfl, hx1⟩
          go_wp2_with fail
          refine (HBO.out w1 hx1).mono ?_; rintro e w2 ⟨rfl, hy2⟩
          have hx2 := hx1.trans hy2
          clear hx1 hy2
          have hx4 : Ext wA ((w2.alloc (.cells #[.bool p0, .bool p1, .bool p2, .bool p3, .bool p4, .bool p5, .bool p6] 71)).alloc (.cells #[.bool q0, .bool q1, .bool q2, .bool q3, .bool q4, .bool q5, .bool q6] 71)) := hx2.trans ((Ext.alloc _ _).trans (Ext.alloc _ _))
          go_wp2_with fail
          obtain ⟨w4, hw4⟩ : ∃ w4, w4 = (w2.alloc (.cells #[.bool p0, .bool p1, .bool p2, .bool p3, .bool p4, .bool p5, .bool p6] 71)).alloc (.cells #[.bool q0, .bool q1, .bool q2, .bool q3, .bool q4, .bool q5, .bool q6] 71) := ⟨_, rfl⟩
          rw [← hw4] at hx4 ⊢
          have c0 : ∀ W, Ext w4 W → W.cell? ⟨w2.heap.size, 0, none⟩ = some (.bool p0) := by rw [hw4]; exact kept_alloc2 w2 _ _ _ _ rfl
          have c1 : ∀ W, Ext w4 W → W.cell? ⟨w2.heap.size, 1, none⟩ = some (.bool p1) := by rw [hw4]; exact kept_alloc2 w2 _ _ _ _ rfl
          have c2 : ∀ W, Ext w4 W → W.cell? ⟨w2.heap.size, 2, none⟩ = some (.bool p2) := by rw [hw4]; exact kept_alloc2 w2 _ _ _ _ rfl
          have c3 : ∀ W, Ext w4 W → W.cell? ⟨w2.heap.size, 3, none⟩ = some (.bool p3) := by rw [hw4]; exact kept_alloc2 w2 _ _ _ _ rfl
          have c4 : ∀ W, Ext w4 W → W.cell? ⟨w2.heap.size, 4, none⟩ = some (.bool p4) := by rw [hw4]; exact kept_alloc2 w2 _ _ _ _ rfl
          have c5 : ∀ W, Ext w4 W → W.cell? ⟨w2.heap.size, 5, none⟩ = some (.bool p5) := by rw [hw4]; exact kept_alloc2 w2 _ _ _ _ rfl
          have c6 : ∀ W, Ext w4 W → W.cell? ⟨w2.heap.size, 6, none⟩ = some (.bool p6) := by rw [hw4]; exact kept_alloc2 w2 _ _ _ _ rfl
          have d0 : ∀ W, Ext w4 W → W.cell? ⟨w2.heap.size + 1, 0, none⟩ = some (.bool q0) := by rw [hw4]; exact kept_alloc2' w2 _ _ _ _ rfl
          have d1 : ∀ W, Ext w4 W → W.cell? ⟨w2.heap.size + 1, 1, none⟩ = some (.bool q1) := by rw [hw4]; exact kept_alloc2' w2 _ _ _ _ rfl
          have d2 : ∀ W, Ext w4 W → W.cell? ⟨w2.heap.size + 1, 2, none⟩ = some (.bool q2) := by rw [hw4]; exact kept_alloc2' w2 _ _ _ _ rfl
          have d3 : ∀ W, Ext w4 W → W.cell? ⟨w2.heap.size + 1, 3, none⟩ = some (.bool q3) := by rw [hw4]; exact kept_alloc2' w2 _ _ _ _ rfl
          have d4 : ∀ W, Ext w4 W → W.cell? ⟨w2.heap.size + 1, 4, none⟩ = some (.bool q4) := by rw [hw4]; exact kept_alloc2' w2 _ _ _ _ rfl
          have d5 : ∀ W, Ext w4 W → W.cell? ⟨w2.heap.size + 1, 5, none⟩ = some (.bool q5) := by rw [hw4]; exact kept_alloc2' w2 _ _ _ _ rfl
          have d6 : ∀ W, Ext w4 W → W.cell? ⟨w2.heap.size + 1, 6, none⟩ = some (.bool q6) := by rw [hw4]; exact kept_alloc2' w2 _ _ _ _ rfl
          clear hw4
          refine wp_region_peek (Ext w4) (fun _ => True) [] [.look 0, .look 2, .go 1, .go 3, .look 4, .look 5, .look 6, .look 7] (by kernel_rfl) (by kernel_rfl) (by intro c a d v w h; cases d <;> exact h) ?_
          have hd : Ext w4 { w4 with drawn := w4.drawn + 1 } := drawn_ext w4
          have hs : ∀ s : InC (Ext w4), Ext w4 s.w := fun s => s.h
          generalize { w4 with drawn := w4.drawn + 1 } = W0 at *
          have hsz : w.heap.size ≤ W0.heap.size := (hE0.trans (hx4.trans hd)).size
          iterate 2 (refine wpPeek_look rfl ‹_› (fun K hK => ?_); go_simp; first | (refine hK _ ?_; clear hK K) | (refine ⟨_, fun _ => rfl, hK _ ?_⟩; clear hK K))
          clear hs c0 c1 c2 c3 c4 c5 c6 d0 d1 d2 d3 d4 d5 d6
          refine wpPeek_go rfl rfl (fun K hK => ?_)
          go_wp2_with fail
          refine (HSL.out W0).mono ?_; rintro e W1 ⟨v1, rfl, ho1, hy1⟩
          have HO1 := Lib.hid (OInts.low ho1 hsz); clear ho1
          go_wp2_with fail
          refine ⟨KeepE.of (fun h => h.trans hy1) (fun _ => trivial), ?_⟩
          have hs1 := hy1.size
          refine wpPeek_go rfl rfl (fun K hK => ?_)
          go_wp2_with fail
          refine (HSR.out W1).mono ?_; rintro e W2 ⟨v2, rfl, ho2, hy2⟩
          have HO2 := Lib.hid (OInts.low ho2 (show w.heap.size ≤ W1.heap.size by omega)); clear ho2
          go_wp2_with fail
          refine ⟨KeepE.of (fun h => h.trans hy2) (fun _ => trivial), ?_⟩
          replace hd := hd.trans (hy1.trans hy2)
          iterate 4 (refine wpPeek_look rfl ‹_› (fun K hK => ?_); go_simp; first | (refine hK _ ?_; clear hK K) | (refine ⟨_, fun _ => rfl, hK _ ?_⟩; clear hK K))
          refine wpPeek_nil ?_
          go_wp2_with fail
          ((try simp only [Exit.inBlock, Exit.then]); refine bodyPost_ret (results_tmp4 rfl _ _ _) rfl ?_)
          exact ⟨_, _, rfl, HO1.out.ext hy2, HO2.out, hE0.trans (hx4.trans hd)⟩
        · obtain ⟨e1, e2, e3⟩ : meet x y = false ∧ metL x y = [] ∧ metR x y = [] := by
            have : meet x y = false := by rw [HMB.out, HMM.out, hbf, HZ1.out, HZ2.out]; rfl
            exact ⟨this, by rw [HL.out, this]; rfl, by rw [HRR.out, this]; rfl⟩
          rw [e1, e2, e3]
          clear e1 e2 e3
          have hbn : (x.f != y.f) = false := by rw [bne, hbf]; rfl
          clear hbf
          go_enter Try.func52, Try.ntmps52
          go_wp2_with fail
          rw [← HW.out]
          refine HT.out.mono ?_; rintro e w1 ⟨rfl, hx1⟩
          go_wp2_with fail
          refine (HBO.out w1 hx1).mono ?_; rintro e w2 ⟨rfl, hy2⟩
          have hx2 := hx1.trans hy2
          clear hx1 hy2
          have hx4 : Ext wA ((w2.alloc (.cells #[.bool p0, .bool p1, .bool p2, .bool p3, .bool p4, .bool p5, .bool p6] 71)).alloc (.cells #[.bool q0, .bool q1, .bool q2, .bool q3, .bool q4, .bool q5, .bool q6] 71)) := hx2.trans ((Ext.alloc _ _).trans (Ext.alloc _ _))
          go_wp2_with fail
          ((try simp only [Exit.inBlock, Exit.then]); refine bodyPost_ret (results_tmp4 rfl _ _ _) rfl ?_)
          exact ⟨_, _, rfl, OInts.nil _ _ _, OInts.nil _ _ _, hE0.trans hx4⟩
      · obtain ⟨e1, e2, e3⟩ : meet x y = false ∧ metL x y = [] ∧ metR x y = [] := by
          have : meet x y = false := by rw [HMB.out, HMM.out, hbf, HZ1.out]; rfl
          exact ⟨this, by rw [HL.out, this]; rfl, by rw [HRR.out, this]; rfl⟩
        rw [e1, e2, e3]
        clear e1 e2 e3
        have hbn : (x.f != y.f) = false := by rw [bne, hbf]; rfl
        clear hbf
        go_enter Try.func52, Try.ntmps52
        go_wp2_with fail
        rw [← HW.out]
        refine HT.out.mono ?_; rintro e w1 ⟨rfl, hx1⟩
        go_wp2_with fail
        refine (HBO.out w1 hx1).mono ?_; rintro e w2 ⟨rfl, hy2⟩
        have hx2 := hx1.trans hy2
        clear hx1 hy2
        have hx4 : Ext wA ((w2.alloc (.cells #[.bool p0, .bool p1, .bool p2, .bool p3, .bool p4, .bool p5, .bool p6] 71)).alloc (.cells #[.bool q0, .bool q1, .bool q2, .bool q3, .bool q4, .bool q5, .bool q6] 71)) := hx2.trans ((Ext.alloc _ _).trans (Ext.alloc _ _))
        go_wp2_with fail
        ((try simp only [Exit.inBlock, Exit.then]); refine bodyPost_ret (results_tmp4 rfl _ _ _) rfl ?_)
        exact ⟨_, _, rfl, OInts.nil _ _ _, OInts.nil _ _ _, hE0.trans hx4⟩
  · have hk : (twoK x y != 0) = true := by simp [h0]
    obtain ⟨e1, e2, e3⟩ : meet x y = false ∧ metL x y = [] ∧ metR x y = [] := by
      have : meet x y = false := by rw [HM.out, if_neg h0]
      exact ⟨this, by rw [HL.out, this]; rfl, by rw [HRR.out, this]; rfl⟩
    rw [e1, e2, e3]
    clear e1 e2 e3
    generalize twoK x y = k at *
    clear h0
    go_enter Try.func52, Try.ntmps52
    go_wp2_with fail
    rw [← HW.out]
    refine HT.out.mono ?_; rintro e w1 ⟨rfl, hx1⟩
    go_wp2_with fail
    ((try simp only [Exit.inBlock, Exit.then]); refine bodyPost_ret (results_tmp4 rfl _ _ _) rfl ?_)
    exact ⟨_, _, rfl, OInts.nil _ _ _, OInts.nil _ _ _, hE0.trans hx1⟩

set_option maxHeartbeats 2000000 in
set_option maxRecDepth 100000 in
theorem rBoth_c (tv lv rv tu lu ru : Value) (x y : Rul) (w : World) (hr : RulR w tv lv rv x) (hs : RulR w tu lu ru y) : Calls Try.prog 53 #[.agg #[.int .i64 x.f, tv, lv, rv], .agg #[.int .i64 y.f, tu, lu, ru]] w (R4 (metL x y) (metR x y) (meet x y) (twoK x y) w) := by
  obtain ⟨wA, hwA⟩ : ∃ wA, wA = (w.alloc (.cells #[.int .i64 x.f, tv, lv, rv] 24)).alloc (.cells #[.int .i64 y.f, tu, lu, ru] 24) := ⟨_, rfl⟩
  have hE0 : Ext w wA := by rw [hwA]; exact (Ext.alloc _ _).trans (Ext.alloc _ _)
  have k0 : ∀ W, Ext wA W → W.cell? ⟨w.heap.size, 0, none⟩ = some (.int .i64 x.f) := by rw [hwA]; exact kept_alloc2 w _ _ _ _ rfl
  have k1 : ∀ W, Ext wA W → W.cell? ⟨w.heap.size, 1, none⟩ = some tv := by rw [hwA]; exact kept_alloc2 w _ _ _ _ rfl
  have k2 : ∀ W, Ext wA W → W.cell? ⟨w.heap.size, 2, none⟩ = some lv := by rw [hwA]; exact kept_alloc2 w _ _ _ _ rfl
  have k3 : ∀ W, Ext wA W → W.cell? ⟨w.heap.size, 3, none⟩ = some rv := by rw [hwA]; exact kept_alloc2 w _ _ _ _ rfl
  have m0 : ∀ W, Ext wA W → W.cell? ⟨w.heap.size + 1, 0, none⟩ = some (.int .i64 y.f) := by rw [hwA]; exact kept_alloc2' w _ _ _ _ rfl
  have m1 : ∀ W, Ext wA W → W.cell? ⟨w.heap.size + 1, 1, none⟩ = some tu := by rw [hwA]; exact kept_alloc2' w _ _ _ _ rfl
  have m2 : ∀ W, Ext wA W → W.cell? ⟨w.heap.size + 1, 2, none⟩ = some lu := by rw [hwA]; exact kept_alloc2' w _ _ _ _ rfl
  have m3 : ∀ W, Ext wA W → W.cell? ⟨w.heap.size + 1, 3, none⟩ = some ru := by rw [hwA]; exact kept_alloc2' w _ _ _ _ rfl
  have H0 : Ext wA wA := Ext.refl _
  have HX := Lib.hid (hr.ext hE0)
  have HY := Lib.hid (hs.ext hE0)
  have HT := Lib.hid (rtwo_c tv lv rv tu lu ru x y wA HX.out HY.out)
  have HW := Lib.hid hwA
  clear hwA hr hs
  have HM := Lib.hid (show meet x y = (if twoK x y = 0 then meetB x y else false) from rfl)
  have HL := Lib.hid (show metL x y = if meet x y then comL x.l y.l else [] from rfl)
  have HRR := Lib.hid (show metR x y = if meet x y then comL x.r y.r else [] from rfl)
  by_cases h0 : twoK x y = 0
  · rw [h0] at HT ⊢
    have HMB := Lib.hid (show meet x y = meetB x y by rw [HM.out, if_pos h0])
    have HMM := Lib.hid (show meetB x y = (x.f == y.f && (!((comL x.l y.l).length == 0) && !((comL x.r y.r).length == 0))) from rfl)
    have HCL := Lib.hid (fun W (hW : Ext wA W) => common_c lv lu x.l y.l W (HX.out.l.ext hW) (HY.out.l.ext hW))
    have HCR := Lib.hid (fun W (hW : Ext wA W) => common_c rv ru x.r y.r W (HX.out.r.ext hW) (HY.out.r.ext hW))
    clear h0
    generalize comL x.l y.l = CL at *
    generalize comL x.r y.r = CR at *
    cases hbf : (x.f == y.f)
    · obtain ⟨e1, e2, e3⟩ : meet x y = false ∧ metL x y = [] ∧ metR x y = [] := by
        have : meet x y = false := by rw [HMB.out, HMM.out, hbf]; rfl
        exact ⟨this, by rw [HL.out, this]; rfl, by rw [HRR.out, this]; rfl⟩
      rw [e1, e2, e3]
      clear e1 e2 e3
      have hbn : (x.f != y.f) = true := by rw [bne, hbf]; rfl
      clear hbf
      go_enter Try.func53, Try.ntmps53
      go_wp2_with fail
      rw [← HW.out]
      refine HT.out.mono ?_; rintro e w1 ⟨rfl, hx1⟩
      have hs : ∀ s : InC (Ext w1), Ext wA s.w := fun s => hx1.trans s.h
      go_wp2_with fail
      refine wp_region_peek (Ext w1) (fun _ => True) [] [.look 0, .look 1, .look 2, .look 3, .look 5, .look 6, .look 7, .look 8, .go 4, .go 9, .look 10, .look 11] (by kernel_rfl) (by kernel_rfl) (by intro c a d v w h; cases d <;> exact h) ?_
      have hd : Ext w1 { w1 with drawn := w1.drawn + 1 } := drawn_ext w1
      generalize { w1 with drawn := w1.drawn + 1 } = W0 at *
      have hsz : w.heap.size ≤ W0.heap.size := (hE0.trans (hx1.trans hd)).size
      iterate 8 (refine wpPeek_look rfl ‹_› (fun K hK => ?_); go_simp; first | (refine hK _ ?_; clear hK K) | (refine ⟨_, fun _ => rfl, hK _ ?_⟩; clear hK K))
      clear hs
      refine wpPeek_go rfl rfl (fun K hK => ?_)
      go_wp2_with fail
      refine (HCL.out W0 (hx1.trans hd)).mono ?_; rintro e W1 ⟨v1, rfl, ho1, hy1⟩
      have HO1 := Lib.hid (OInts.low ho1 hsz)
      obtain ⟨a1, e1, rfl, _⟩ := ho1.ints.open_
      clear ho1
      go_wp2_with fail
      refine ⟨KeepE.of (fun h => h.trans hy1) (fun _ => trivial), ?_⟩
      have hs1 := hy1.size
      replace hd := hd.trans hy1
      refine wpPeek_go rfl rfl (fun K hK => ?_)
      go_wp2_with fail
      refine (HCR.out W1 (hx1.trans hd)).mono ?_; rintro e W2 ⟨v2, rfl, ho2, hy2⟩
      have HO2 := Lib.hid (OInts.low ho2 (show w.heap.size ≤ W1.heap.size by omega))
      obtain ⟨a2, e2, rfl, _⟩ := ho2.ints.open_
      clear ho2
      go_wp2_with fail
      refine ⟨KeepE.of (fun h => h.trans hy2) (fun _ => trivial), ?_⟩
      replace hd := hd.trans hy2
      have hxd := hx1.trans hd
      iterate 2 (refine wpPeek_look rfl ‹_› (fun K hK => ?_); go_simp; first | (refine hK _ ?_; clear hK K) | (refine ⟨_, fun _ => rfl, hK _ ?_⟩; clear hK K))
      refine wpPeek_nil ?_
      go_wp2_with fail
      ((try simp only [Exit.inBlock, Exit.then]); refine bodyPost_ret (results_tmp4 rfl _ _ _) rfl ?_)
      exact ⟨_, _, rfl, OInts.nil _ _ _, OInts.nil _ _ _, hE0.trans hxd⟩
    · cases hn1 : (CL.length == 0)
      · have HN1 := Lib.hid hn1
        have hl1 : (((CL.length : Nat) : Int) == 0) = false := by have := HN1.out; simp at this; simp [this]
        cases hn2 : (CR.length == 0)
        · have HN2 := Lib.hid hn2
          have hl2 : (((CR.length : Nat) : Int) == 0) = false := by have := HN2.out; simp at this; simp [this]
          obtain ⟨e1, e2, e3⟩ : meet x y = true ∧ metL x y = CL ∧ metR x y = CR := by
            have : meet x y = true := by rw [HMB.out, HMM.out, hbf, HN1.out, HN2.out]; rfl
            exact ⟨this, by rw [HL.out, this]; rfl, by rw [HRR.out, this]; rfl⟩
          rw [e1, e2, e3]
          clear e1 e2 e3 hn1 hn2
          have hbn : (x.f != y.f) = false := by rw [bne, hbf]; rfl
          clear hbf
          go_enter Try.func53, Try.ntmps53
          go_wp2_with fail
          rw [← HW.out]
          refine HT.out.mono ?_; rintro e w1 ⟨rfl, hx1⟩
          have hs : ∀ s : InC (Ext w1), Ext wA s.w := fun s => hx1.trans s.h
          go_wp2_with fail
          refine wp_region_peek (Ext w1) (fun _ => True) [] [.look 0, .look 1, .look 2, .look 3, .look 5, .look 6, .look 7, .look 8, .go 4, .go 9, .look 10, .look 11] (by kernel_rfl) (by kernel_rfl) (by intro c a d v w h; cases d <;> exact h) ?_
          have hd : Ext w1 { w1 with drawn := w1.drawn + 1 } := drawn_ext w1
          generalize { w1 with drawn := w1.drawn + 1 } = W0 at *
          have hsz : w.heap.size ≤ W0.heap.size := (hE0.trans (hx1.trans hd)).size
          iterate 8 (refine wpPeek_look rfl ‹_› (fun K hK => ?_); go_simp; first | (refine hK _ ?_; clear hK K) | (refine ⟨_, fun _ => rfl, hK _ ?_⟩; clear hK K))
          clear hs
          refine wpPeek_go rfl rfl (fun K hK => ?_)
          go_wp2_with fail
          refine (HCL.out W0 (hx1.trans hd)).mono ?_; rintro e W1 ⟨v1, rfl, ho1, hy1⟩
          have HO1 := Lib.hid (OInts.low ho1 hsz)
          obtain ⟨a1, e1, rfl, _⟩ := ho1.ints.open_
          clear ho1
          go_wp2_with fail
          refine ⟨KeepE.of (fun h => h.trans hy1) (fun _ => trivial), ?_⟩
          have hs1 := hy1.size
          replace hd := hd.trans hy1
          refine wpPeek_go rfl rfl (fun K hK => ?_)
          go_wp2_with fail
          refine (HCR.out W1 (hx1.trans hd)).mono ?_; rintro e W2 ⟨v2, rfl, ho2, hy2⟩
          have HO2 := Lib.hid (OInts.low ho2 (show w.heap.size ≤ W1.heap.size by omega))
          obtain ⟨a2, e2, rfl, _⟩ := ho2.ints.open_
          clear ho2
          go_wp2_with fail
          refine ⟨KeepE.of (fun h => h.trans hy2) (fun _ => trivial), ?_⟩
          replace hd := hd.trans hy2
          have hxd := hx1.trans hd
          iterate 2 (refine wpPeek_look rfl ‹_› (fun K hK => ?_); go_simp; first | (refine hK _ ?_; clear hK K) | (refine ⟨_, fun _ => rfl, hK _ ?_⟩; clear hK K))
          refine wpPeek_nil ?_
          go_wp2_with fail
          ((try simp only [Exit.inBlock, Exit.then]); refine bodyPost_ret (results_tmp4 rfl _ _ _) rfl ?_)
          exact ⟨_, _, rfl, HO1.out.ext hy2, HO2.out, hE0.trans hxd⟩
        · have HN2 := Lib.hid hn2
          have hl2 : (((CR.length : Nat) : Int) == 0) = true := by have := HN2.out; simp at this; simp [this]
          obtain ⟨e1, e2, e3⟩ : meet x y = false ∧ metL x y = [] ∧ metR x y = [] := by
            have : meet x y = false := by rw [HMB.out, HMM.out, hbf, HN1.out, HN2.out]; rfl
            exact ⟨this, by rw [HL.out, this]; rfl, by rw [HRR.out, this]; rfl⟩
          rw [e1, e2, e3]
          clear e1 e2 e3
          clear hn1 hn2
          have hbn : (x.f != y.f) = false := by rw [bne, hbf]; rfl
          clear hbf
          go_enter Try.func53, Try.ntmps53
          go_wp2_with fail
          rw [← HW.out]
          refine HT.out.mono ?_; rintro e w1 ⟨rfl, hx1⟩
          have hs : ∀ s : InC (Ext w1), Ext wA s.w := fun s => hx1.trans s.h
          go_wp2_with fail
          refine wp_region_peek (Ext w1) (fun _ => True) [] [.look 0, .look 1, .look 2, .look 3, .look 5, .look 6, .look 7, .look 8, .go 4, .go 9, .look 10, .look 11] (by kernel_rfl) (by kernel_rfl) (by intro c a d v w h; cases d <;> exact h) ?_
          have hd : Ext w1 { w1 with drawn := w1.drawn + 1 } := drawn_ext w1
          generalize { w1 with drawn := w1.drawn + 1 } = W0 at *
          have hsz : w.heap.size ≤ W0.heap.size := (hE0.trans (hx1.trans hd)).size
          iterate 8 (refine wpPeek_look rfl ‹_› (fun K hK => ?_); go_simp; first | (refine hK _ ?_; clear hK K) | (refine ⟨_, fun _ => rfl, hK _ ?_⟩; clear hK K))
          clear hs
          refine wpPeek_go rfl rfl (fun K hK => ?_)
          go_wp2_with fail
          refine (HCL.out W0 (hx1.trans hd)).mono ?_; rintro e W1 ⟨v1, rfl, ho1, hy1⟩
          have HO1 := Lib.hid (OInts.low ho1 hsz)
          obtain ⟨a1, e1, rfl, _⟩ := ho1.ints.open_
          clear ho1
          go_wp2_with fail
          refine ⟨KeepE.of (fun h => h.trans hy1) (fun _ => trivial), ?_⟩
          have hs1 := hy1.size
          replace hd := hd.trans hy1
          refine wpPeek_go rfl rfl (fun K hK => ?_)
          go_wp2_with fail
          refine (HCR.out W1 (hx1.trans hd)).mono ?_; rintro e W2 ⟨v2, rfl, ho2, hy2⟩
          have HO2 := Lib.hid (OInts.low ho2 (show w.heap.size ≤ W1.heap.size by omega))
          obtain ⟨a2, e2, rfl, _⟩ := ho2.ints.open_
          clear ho2
          go_wp2_with fail
          refine ⟨KeepE.of (fun h => h.trans hy2) (fun _ => trivial), ?_⟩
          replace hd := hd.trans hy2
          have hxd := hx1.trans hd
          iterate 2 (refine wpPeek_look rfl ‹_› (fun K hK => ?_); go_simp; first | (refine hK _ ?_; clear hK K) | (refine ⟨_, fun _ => rfl, hK _ ?_⟩; clear hK K))
          refine wpPeek_nil ?_
          go_wp2_with fail
          ((try simp only [Exit.inBlock, Exit.then]); refine bodyPost_ret (results_tmp4 rfl _ _ _) rfl ?_)
          exact ⟨_, _, rfl, OInts.nil _ _ _, OInts.nil _ _ _, hE0.trans hxd⟩
      · have HN1 := Lib.hid hn1
        have hl1 : (((CL.length : Nat) : Int) == 0) = true := by have := HN1.out; simp at this; simp [this]
        obtain ⟨e1, e2, e3⟩ : meet x y = false ∧ metL x y = [] ∧ metR x y = [] := by
          have : meet x y = false := by rw [HMB.out, HMM.out, hbf, HN1.out]; rfl
          exact ⟨this, by rw [HL.out, this]; rfl, by rw [HRR.out, this]; rfl⟩
        rw [e1, e2, e3]
        clear e1 e2 e3
        clear hn1
        have hbn : (x.f != y.f) = false := by rw [bne, hbf]; rfl
        clear hbf
        go_enter Try.func53, Try.ntmps53
        go_wp2_with fail
        rw [← HW.out]
        refine HT.out.mono ?_; rintro e w1 ⟨rfl, hx1⟩
        have hs : ∀ s : InC (Ext w1), Ext wA s.w := fun s => hx1.trans s.h
        go_wp2_with fail
        refine wp_region_peek (Ext w1) (fun _ => True) [] [.look 0, .look 1, .look 2, .look 3, .look 5, .look 6, .look 7, .look 8, .go 4, .go 9, .look 10, .look 11] (by kernel_rfl) (by kernel_rfl) (by intro c a d v w h; cases d <;> exact h) ?_
        have hd : Ext w1 { w1 with drawn := w1.drawn + 1 } := drawn_ext w1
        generalize { w1 with drawn := w1.drawn + 1 } = W0 at *
        have hsz : w.heap.size ≤ W0.heap.size := (hE0.trans (hx1.trans hd)).size
        iterate 8 (refine wpPeek_look rfl ‹_› (fun K hK => ?_); go_simp; first | (refine hK _ ?_; clear hK K) | (refine ⟨_, fun _ => rfl, hK _ ?_⟩; clear hK K))
        clear hs
        refine wpPeek_go rfl rfl (fun K hK => ?_)
        go_wp2_with fail
        refine (HCL.out W0 (hx1.trans hd)).mono ?_; rintro e W1 ⟨v1, rfl, ho1, hy1⟩
        have HO1 := Lib.hid (OInts.low ho1 hsz)
        obtain ⟨a1, e1, rfl, _⟩ := ho1.ints.open_
        clear ho1
        go_wp2_with fail
        refine ⟨KeepE.of (fun h => h.trans hy1) (fun _ => trivial), ?_⟩
        have hs1 := hy1.size
        replace hd := hd.trans hy1
        refine wpPeek_go rfl rfl (fun K hK => ?_)
        go_wp2_with fail
        refine (HCR.out W1 (hx1.trans hd)).mono ?_; rintro e W2 ⟨v2, rfl, ho2, hy2⟩
        have HO2 := Lib.hid (OInts.low ho2 (show w.heap.size ≤ W1.heap.size by omega))
        obtain ⟨a2, e2, rfl, _⟩ := ho2.ints.open_
        clear ho2
        go_wp2_with fail
        refine ⟨KeepE.of (fun h => h.trans hy2) (fun _ => trivial), ?_⟩
        replace hd := hd.trans hy2
        have hxd := hx1.trans hd
        iterate 2 (refine wpPeek_look rfl ‹_› (fun K hK => ?_); go_simp; first | (refine hK _ ?_; clear hK K) | (refine ⟨_, fun _ => rfl, hK _ ?_⟩; clear hK K))
        refine wpPeek_nil ?_
        go_wp2_with fail
        ((try simp only [Exit.inBlock, Exit.then]); refine bodyPost_ret (results_tmp4 rfl _ _ _) rfl ?_)
        exact ⟨_, _, rfl, OInts.nil _ _ _, OInts.nil _ _ _, hE0.trans hxd⟩
  · have hk : (twoK x y != 0) = true := by simp [h0]
    obtain ⟨e1, e2, e3⟩ : meet x y = false ∧ metL x y = [] ∧ metR x y = [] := by
      have : meet x y = false := by rw [HM.out, if_neg h0]
      exact ⟨this, by rw [HL.out, this]; rfl, by rw [HRR.out, this]; rfl⟩
    rw [e1, e2, e3]
    clear e1 e2 e3
    generalize twoK x y = k at *
    clear h0
    go_enter Try.func53, Try.ntmps53
    go_wp2_with fail
    rw [← HW.out]
    refine HT.out.mono ?_; rintro e w1 ⟨rfl, hx1⟩
    go_wp2_with fail
    ((try simp only [Exit.inBlock, Exit.then]); refine bodyPost_ret (results_tmp4 rfl _ _ _) rfl ?_)
    exact ⟨_, _, rfl, OInts.nil _ _ _, OInts.nil _ _ _, hE0.trans hx1⟩

set_option maxHeartbeats 2000000 in
set_option maxRecDepth 100000 in
theorem CanMeet_c (tv lv rv tu lu ru : Value) (x y : Rul) (w : World) (hr : RulR w tv lv rv x) (hs : RulR w tu lu ru y) : Calls Try.prog 51 #[.agg #[.int .i64 x.f, tv, lv, rv], .agg #[.int .i64 y.f, tu, lu, ru]] w (RV (.tuple #[.bool (meet x y), .int .i64 (twoK x y)]) w) := by
  obtain ⟨wA, hwA⟩ : ∃ wA, wA = (w.alloc (.cells #[.int .i64 x.f, tv, lv, rv] 24)).alloc (.cells #[.int .i64 y.f, tu, lu, ru] 24) := ⟨_, rfl⟩
  have hE0 : Ext w wA := by rw [hwA]; exact (Ext.alloc _ _).trans (Ext.alloc _ _)
  have k0 : ∀ W, Ext wA W → W.cell? ⟨w.heap.size, 0, none⟩ = some (.int .i64 x.f) := by rw [hwA]; exact kept_alloc2 w _ _ _ _ rfl
  have k1 : ∀ W, Ext wA W → W.cell? ⟨w.heap.size, 1, none⟩ = some tv := by rw [hwA]; exact kept_alloc2 w _ _ _ _ rfl
  have k2 : ∀ W, Ext wA W → W.cell? ⟨w.heap.size, 2, none⟩ = some lv := by rw [hwA]; exact kept_alloc2 w _ _ _ _ rfl
  have k3 : ∀ W, Ext wA W → W.cell? ⟨w.heap.size, 3, none⟩ = some rv := by rw [hwA]; exact kept_alloc2 w _ _ _ _ rfl
  have m0 : ∀ W, Ext wA W → W.cell? ⟨w.heap.size + 1, 0, none⟩ = some (.int .i64 y.f) := by rw [hwA]; exact kept_alloc2' w _ _ _ _ rfl
  have m1 : ∀ W, Ext wA W → W.cell? ⟨w.heap.size + 1, 1, none⟩ = some tu := by rw [hwA]; exact kept_alloc2' w _ _ _ _ rfl
  have m2 : ∀ W, Ext wA W → W.cell? ⟨w.heap.size + 1, 2, none⟩ = some lu := by rw [hwA]; exact kept_alloc2' w _ _ _ _ rfl
  have m3 : ∀ W, Ext wA W → W.cell? ⟨w.heap.size + 1, 3, none⟩ = some ru := by rw [hwA]; exact kept_alloc2' w _ _ _ _ rfl
  have H0 : Ext wA wA := Ext.refl _
  have HX := Lib.hid (hr.ext hE0)
  have HY := Lib.hid (hs.ext hE0)
  have HB := Lib.hid (Both_c tv lv rv tu lu ru x y wA HX.out HY.out)
  have HW := Lib.hid hwA
  clear hwA hr hs
  generalize meet x y = b at *
  generalize twoK x y = k at *
  go_enter Try.func51, Try.ntmps51
  go_wp2_with fail
  rw [← HW.out]
  refine HB.out.mono ?_; rintro e w1 ⟨v1, v2, rfl, _, _, hx1⟩
  go_wp2_with fail
  go_ret2
  exact RV.mk rfl (hE0.trans hx1)

set_option maxHeartbeats 2000000 in
set_option maxRecDepth 100000 in
theorem rCanMeet_c (tv lv rv tu lu ru : Value) (x y : Rul) (w : World) (hr : RulR w tv lv rv x) (hs : RulR w tu lu ru y) : Calls Try.prog 54 #[.agg #[.int .i64 x.f, tv, lv, rv], .agg #[.int .i64 y.f, tu, lu, ru]] w (RV (.tuple #[.bool (meet x y), .int .i64 (twoK x y)]) w) := by
  obtain ⟨wA, hwA⟩ : ∃ wA, wA = (w.alloc (.cells #[.int .i64 x.f, tv, lv, rv] 24)).alloc (.cells #[.int .i64 y.f, tu, lu, ru] 24) := ⟨_, rfl⟩
  have hE0 : Ext w wA := by rw [hwA]; exact (Ext.alloc _ _).trans (Ext.alloc _ _)
  have k0 : ∀ W, Ext wA W → W.cell? ⟨w.heap.size, 0, none⟩ = some (.int .i64 x.f) := by rw [hwA]; exact kept_alloc2 w _ _ _ _ rfl
  have k1 : ∀ W, Ext wA W → W.cell? ⟨w.heap.size, 1, none⟩ = some tv := by rw [hwA]; exact kept_alloc2 w _ _ _ _ rfl
  have k2 : ∀ W, Ext wA W → W.cell? ⟨w.heap.size, 2, none⟩ = some lv := by rw [hwA]; exact kept_alloc2 w _ _ _ _ rfl
  have k3 : ∀ W, Ext wA W → W.cell? ⟨w.heap.size, 3, none⟩ = some rv := by rw [hwA]; exact kept_alloc2 w _ _ _ _ rfl
  have m0 : ∀ W, Ext wA W → W.cell? ⟨w.heap.size + 1, 0, none⟩ = some (.int .i64 y.f) := by rw [hwA]; exact kept_alloc2' w _ _ _ _ rfl
  have m1 : ∀ W, Ext wA W → W.cell? ⟨w.heap.size + 1, 1, none⟩ = some tu := by rw [hwA]; exact kept_alloc2' w _ _ _ _ rfl
  have m2 : ∀ W, Ext wA W → W.cell? ⟨w.heap.size + 1, 2, none⟩ = some lu := by rw [hwA]; exact kept_alloc2' w _ _ _ _ rfl
  have m3 : ∀ W, Ext wA W → W.cell? ⟨w.heap.size + 1, 3, none⟩ = some ru := by rw [hwA]; exact kept_alloc2' w _ _ _ _ rfl
  have H0 : Ext wA wA := Ext.refl _
  have HX := Lib.hid (hr.ext hE0)
  have HY := Lib.hid (hs.ext hE0)
  have HB := Lib.hid (rBoth_c tv lv rv tu lu ru x y wA HX.out HY.out)
  have HW := Lib.hid hwA
  clear hwA hr hs
  generalize meet x y = b at *
  generalize twoK x y = k at *
  go_enter Try.func54, Try.ntmps54
  go_wp2_with fail
  rw [← HW.out]
  refine HB.out.mono ?_; rintro e w1 ⟨v1, v2, rfl, _, _, hx1⟩
  go_wp2_with fail
  go_ret2
  exact RV.mk rfl (hE0.trans hx1)
end Go.Proofs.Ytojbamejhlaahaa

