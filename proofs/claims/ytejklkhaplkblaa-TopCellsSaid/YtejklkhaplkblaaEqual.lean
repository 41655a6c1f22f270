/- Walk: the reference's Equal of two paradigms. -/
import Derived.Test.YtejklkhaplkblaaRCopy
namespace Go.Proofs.Ytejklkhaplkblaa
open Go.RowKit Go.Shelf
set_option linter.unusedVariables false

def eqAt (es fs : List Ent) (i : Nat) : Bool := sameIntsB (ent es i).1 (ent fs i).1 && ((ent es i).2 == (ent fs i).2)
def eqP (sizes : List Int) (es : List Ent) (ss : List Int) (fs : List Ent) : Bool := sameIntsB sizes ss && (es.length == fs.length && allB es.length (eqAt es fs))
theorem sameIntsB_refl (l : List Int) : sameIntsB l l = true := by rw [sameIntsB_iff]; exact beq_self_eq_true l
theorem eqP_refl (sizes : List Int) (es : List Ent) : eqP sizes es sizes es = true := by
  rw [eqP, sameIntsB_refl, beq_self_eq_true, allB_true]
  · rfl
  · intro j _; simp [eqAt, sameIntsB_refl]

set_option maxHeartbeats 2000000 in
theorem Equal_c (sv ev tv fv : Value) (sizes : List Int) (es : List Ent) (ss : List Int) (fs : List Ent) (w : World) (hp : Par w sv ev sizes es) (hq : Par w tv fv ss fs) :
    Calls Try.prog 22 #[.agg #[sv, ev], .agg #[tv, fv]] w (RV (.bool (eqP sizes es ss fs)) w) := by
  have HP := Lib.hid hp; have HQ := Lib.hid hq
  obtain ⟨ae, ce, rfl, hle, hme, He⟩ := hp.e.open_
  obtain ⟨af, cf, rfl, hlf, hmf, Hf⟩ := hq.e.open_
  clear hp hq
  obtain ⟨wA, hwA⟩ : ∃ wA, wA = (w.alloc (.cells #[sv, .slice ae es.length ce] 25)).alloc (.cells #[tv, .slice af fs.length cf] 25) := ⟨_, rfl⟩
  have hE0 : Ext w wA := by rw [hwA]; exact (Ext.alloc _ _).trans (Ext.alloc _ _)
  have hz1 : BoxP wA w.heap.size sv (.slice ae es.length ce) := by rw [hwA]; exact (BoxP.new w _ _ rfl).ext (Ext.alloc _ _)
  have hz2 : BoxP wA (w.heap.size + 1) tv (.slice af fs.length cf) := by rw [hwA]; exact BoxP.new _ _ _ (by simp)
  have a0 := hz1.c0
  have a1 := hz1.c1
  have b0 := hz2.c0
  have b1 := hz2.c1
  have HS := Lib.hid (fun W (h : Ext wA W) => sameInts_c sv tv sizes ss W (HP.out.s.ext (hE0.trans h)) (HQ.out.s.ext (hE0.trans h)))
  have HW := Lib.hid hwA; clear hwA hz1 hz2
  cases h1 : sameIntsB sizes ss
  · rw [h1] at HS
    rw [show eqP sizes es ss fs = false by rw [eqP, h1]; rfl]
    clear h1
    go_enter Try.func22, Try.ntmps22
    go_wp2_with fail
    rw [← HW.out]
    refine (HS.out _ (Ext.refl _)).mono ?_; rintro e w1 ⟨rfl, n1, rfl⟩
    go_wp2_with fail
    go_ret
    exact RV.bool rfl (hE0.trans (Ext.drewN _ _))
  · rw [h1] at HS
    have H1 := Lib.hid h1; clear h1
    by_cases hl : es.length = fs.length
    · have hl1 : ((es.length : Int) != (fs.length : Int)) = false := by simp [hl]
      have HL := Lib.hid hl; clear hl
      have HV := Lib.hid (show eqP sizes es ss fs = allB es.length (eqAt es fs) by rw [eqP, H1.out, HL.out]; simp)
      generalize eqP sizes es ss fs = res at *
      go_enter Try.func22, Try.ntmps22
      go_wp2_with fail
      rw [← HW.out]
      refine (HS.out _ (Ext.refl _)).mono ?_; rintro e w1 ⟨rfl, n1, hw1⟩
      have hx1 : Ext wA w1 := by rw [hw1]; exact Ext.drewN _ _
      clear hw1
      have a1 := hx1.keep a1
      have b1 := hx1.keep b1
      have hX1 := hE0.trans hx1
      go_wp2_with fail
      go_loopg [5] es.length (fun m i wr => ∃ k : Nat, k ≤ es.length ∧ es.length ≤ k + m ∧ i = .int .i64 k ∧ Ext w1 wr ∧ Hid (∀ j, j < k → eqAt es fs j = true))
      case atStart => exact ⟨0, by omega, by omega, rfl, Ext.refl _, fun j hj => by omega⟩
      case round =>
        obtain ⟨k, hk, hk2, rfl, hB, hE⟩ := hrel
        have a1 := hB.keep a1
        have b1 := hB.keep b1
        by_cases hlt : k < es.length
        · have hltf : k < fs.length := by have := HL.out; omega
          obtain ⟨ba, oa, rfl, u, hc1, hi1, hf1⟩ := He.out k hlt
          obtain ⟨bb, ob, rfl, v, hc2, hi2, hf2⟩ := Hf.out k hltf
          have hX := hX1.trans hB
          replace hc1 := hX.keep hc1
          replace hf1 := hX.keep hf1
          replace hc2 := hX.keep hc2
          replace hf2 := hX.keep hf2
          have HSI := Lib.hid (fun W (h : Ext wr W) => sameInts_c u v _ _ W (hi1.ext (hX.trans h)) (hi2.ext (hX.trans h)))
          clear hi1 hi2
          have hat : eqAt es fs k = (sameIntsB (ent es k).1 (ent fs k).1 && ((ent es k).2 == (ent fs k).2)) := rfl
          generalize (ent es k).1 = x at *
          generalize (ent fs k).1 = y at *
          generalize (ent es k).2 = f at *
          generalize (ent fs k).2 = g at *
          cases hs : sameIntsB x y
          · rw [hs] at HSI hat
            have HAT := Lib.hid hat; clear hat hs
            go_wp2_with fail
            go_quiet ((go_at_call 7; exact RQ.quiet (HSI.out _ (Ext.drewN _ _))))
            go_wp2_with fail
            go_ret
            exact RV.bool (by rw [HV.out, allB_false hlt (by rw [HAT.out]; rfl)]) ((hX1.trans hB).trans (Ext.drewN _ _))
          · rw [hs] at HSI hat
            clear hs
            rw [Bool.true_and] at hat
            by_cases hfg : f = g
            · subst hfg
              have hff : (f != f) = false := by simp
              have HAT := Lib.hid hat; clear hat
              go_wp2_with fail
              go_quiet ((go_at_call 7; exact RQ.quiet (HSI.out _ (Ext.drewN _ _))))
              go_wp2_with fail
              go_roundg (gk-1)
              case measure => omega
              case rel => exact ⟨k+1, by omega, by omega, by go_num, hB.trans (Ext.drewN _ _), range_step hE.out (by rw [HAT.out]; simp)⟩
            · have hff : (f != g) = true := by simp [hfg]
              have HFG := Lib.hid hfg; clear hfg
              have HAT := Lib.hid hat; clear hat
              go_wp2_with fail
              go_quiet ((go_at_call 7; exact RQ.quiet (HSI.out _ (Ext.drewN _ _))))
              go_wp2_with fail
              go_ret
              exact RV.bool (by rw [HV.out, allB_false hlt (by rw [HAT.out]; simpa using HFG.out)]) ((hX1.trans hB).trans (Ext.drewN _ _))
        · go_wp2_with fail
          go_ret
          exact RV.bool (by rw [HV.out, allB_true (fun j hj => hE.out j (by omega))]) (hX1.trans hB)
    · have hl1 : ((es.length : Int) != (fs.length : Int)) = true := by simp; omega
      rw [show eqP sizes es ss fs = false by rw [eqP, show (es.length == fs.length) = false by simpa using hl]; simp]
      clear hl
      go_enter Try.func22, Try.ntmps22
      go_wp2_with fail
      rw [← HW.out]
      refine (HS.out _ (Ext.refl _)).mono ?_; rintro e w1 ⟨rfl, n1, hw1⟩
      have hx1 : Ext wA w1 := by rw [hw1]; exact Ext.drewN _ _
      clear hw1
      have a1 := hx1.keep a1
      have b1 := hx1.keep b1
      go_wp2_with fail
      go_ret
      exact RV.bool rfl (hE0.trans hx1)
end Go.Proofs.Ytejklkhaplkblaa
