/- Whether no word has two images, and a word that has: the program. -/
import Derived.Test.YtpbflkbelhlogaaMacV
namespace Go.Proofs.Ytpbflkbelhlogaa
open Go.RowKit Go.Shelf
set_option linter.unusedVariables false

def isFunB (m : Mac) : Bool := if validM m = 0 then (bfsM m).isNone else false
def twoB (m : Mac) : Bool := if validM m = 0 then (bfsM m).isSome else false
def twoL (m : Mac) (f : Lst → Int) : List Int := if validM m = 0 then (((bfsM m).map fun p => ((chain p.2 200 p.1).map f).reverse).getD []) else []
def RTwo5 (m : Mac) (w : World) (e : Ending) (w' : World) : Prop := ∃ v1 v2 v3, e = .returned (.tuple #[v1, v2, v3, .bool (twoB m), .int .i64 (validM m)]) ∧ Ext w w' ∧
  Ints w' v1 (twoL m Lst.i) ∧ Ints w' v2 (twoL m Lst.u) ∧ Ints w' v3 (twoL m Lst.v)

set_option maxHeartbeats 1000000 in
theorem IsFunction_c (av ev : Value) (m : Mac) (w : World) (h : MacR w av ev m) : Calls Try.prog 28 #[.agg #[.int .i64 m.s, av, ev]] w (RV (.tuple #[.bool (isFunB m), .int .i64 (validM m)]) w) := by
  obtain ⟨wA, hwA⟩ : ∃ wA, wA = w.alloc (.cells #[.int .i64 m.s, av, ev] 25) := ⟨_, rfl⟩
  have hE0 : Ext w wA := by rw [hwA]; exact Ext.alloc _ _
  have k0 : ∀ W, Ext wA W → W.cell? ⟨w.heap.size, 0, none⟩ = some (.int .i64 m.s) := by rw [hwA]; exact kept_alloc w _ _ rfl
  have k1 : ∀ W, Ext wA W → W.cell? ⟨w.heap.size, 1, none⟩ = some av := by rw [hwA]; exact kept_alloc w _ _ rfl
  have k2 : ∀ W, Ext wA W → W.cell? ⟨w.heap.size, 2, none⟩ = some ev := by rw [hwA]; exact kept_alloc w _ _ rfl
  have H0 : Ext wA wA := Ext.refl _
  have HV := Lib.hid (Validate_c av ev m wA (h.ext hE0))
  have HR := Lib.hid (h.ext hE0)
  have HW := Lib.hid hwA; clear hwA h
  by_cases h0 : validM m = 0
  · have HT := Lib.hid (fun W (hW : Ext wA W) => two_c av ev m m.s.toNat W (HR.out.ext hW) (validM_mac h0).in_)
    have H0V := Lib.hid h0
    rw [h0] at HV
    clear h0
    go_enter Try.func28, Try.ntmps28
    go_wp2_with fail
    rw [← HW.out]
    refine HV.out.mono ?_; rintro e w1 ⟨rfl, hx1⟩
    go_wp2_with fail
    refine (HT.out w1 hx1).mono ?_; rintro e w2 ⟨v1, v2, v3, rfl, hx2, hi1, hi2, hi3⟩
    go_wp2_with fail
    go_ret2
    exact ⟨by rw [isFunB, if_pos H0V.out, H0V.out]; rfl, hE0.trans (hx1.trans hx2)⟩
  · have hk : (validM m != 0) = true := by simp [h0]
    have H0V := Lib.hid h0; clear h0
    generalize hkk : validM m = k at *
    have HKK := Lib.hid hkk; clear hkk
    go_enter Try.func28, Try.ntmps28
    go_wp2_with fail
    rw [← HW.out]
    refine HV.out.mono ?_; rintro e w1 ⟨rfl, hx1⟩
    go_wp2_with fail
    go_ret2
    exact ⟨by rw [isFunB, HKK.out, if_neg H0V.out]; rfl, hE0.trans hx1⟩

set_option maxHeartbeats 1000000 in
theorem Two_c (av ev : Value) (m : Mac) (w : World) (h : MacR w av ev m) : Calls Try.prog 30 #[.agg #[.int .i64 m.s, av, ev]] w (RTwo5 m w) := by
  obtain ⟨wA, hwA⟩ : ∃ wA, wA = w.alloc (.cells #[.int .i64 m.s, av, ev] 25) := ⟨_, rfl⟩
  have hE0 : Ext w wA := by rw [hwA]; exact Ext.alloc _ _
  have k0 : ∀ W, Ext wA W → W.cell? ⟨w.heap.size, 0, none⟩ = some (.int .i64 m.s) := by rw [hwA]; exact kept_alloc w _ _ rfl
  have k1 : ∀ W, Ext wA W → W.cell? ⟨w.heap.size, 1, none⟩ = some av := by rw [hwA]; exact kept_alloc w _ _ rfl
  have k2 : ∀ W, Ext wA W → W.cell? ⟨w.heap.size, 2, none⟩ = some ev := by rw [hwA]; exact kept_alloc w _ _ rfl
  have H0 : Ext wA wA := Ext.refl _
  have HV := Lib.hid (Validate_c av ev m wA (h.ext hE0))
  have HR := Lib.hid (h.ext hE0)
  have HW := Lib.hid hwA; clear hwA h
  by_cases h0 : validM m = 0
  · have HT := Lib.hid (fun W (hW : Ext wA W) => two_c av ev m m.s.toNat W (HR.out.ext hW) (validM_mac h0).in_)
    have H0V := Lib.hid h0
    rw [h0] at HV
    clear h0
    go_enter Try.func30, Try.ntmps30
    go_wp2_with fail
    rw [← HW.out]
    refine HV.out.mono ?_; rintro e w1 ⟨rfl, hx1⟩
    go_wp2_with fail
    refine (HT.out w1 hx1).mono ?_; rintro e w2 ⟨v1, v2, v3, rfl, hx2, hi1, hi2, hi3⟩
    go_wp2_with fail
    ((try simp only [Exit.inBlock, Exit.then]); refine bodyPost_ret (results_tmp5 rfl _ _ _) rfl ?_)
    exact ⟨v1, v2, v3, by rw [twoB, if_pos H0V.out, H0V.out]; rfl, hE0.trans (hx1.trans hx2), by rw [twoL, if_pos H0V.out]; exact hi1, by rw [twoL, if_pos H0V.out]; exact hi2, by rw [twoL, if_pos H0V.out]; exact hi3⟩
  · have hk : (validM m != 0) = true := by simp [h0]
    have H0V := Lib.hid h0; clear h0
    generalize hkk : validM m = k at *
    have HKK := Lib.hid hkk; clear hkk
    go_enter Try.func30, Try.ntmps30
    go_wp2_with fail
    rw [← HW.out]
    refine HV.out.mono ?_; rintro e w1 ⟨rfl, hx1⟩
    go_wp2_with fail
    ((try simp only [Exit.inBlock, Exit.then]); refine bodyPost_ret (results_tmp5 rfl _ _ _) rfl ?_)
    exact ⟨_, _, _, by rw [twoB, HKK.out, if_neg H0V.out]; rfl, hE0.trans hx1, by rw [twoL, HKK.out, if_neg H0V.out]; exact ints_nil_c _, by rw [twoL, HKK.out, if_neg H0V.out]; exact ints_nil_c _, by rw [twoL, HKK.out, if_neg H0V.out]; exact ints_nil_c _⟩
end Go.Proofs.Ytpbflkbelhlogaa
