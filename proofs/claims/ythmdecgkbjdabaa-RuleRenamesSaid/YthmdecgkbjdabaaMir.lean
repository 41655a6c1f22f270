/- Words turned round, of both packages. -/
import Derived.Test.YthmdecgkbjdabaaRulO
import Derived.Test.YthmdecgkbjdabaaTwo
import Derived.Test.YthmdecgkbjdabaaRefOne
namespace Go.Proofs.Ythmdecgkbjdabaa
open Go.RowKit Go.Shelf
set_option linter.unusedVariables false

theorem rev_take (l : List Int) {k : Nat} (hk : k < l.length) : l.reverse.take (k + 1) = l.reverse.take k ++ [l[l.length - 1 - k]?.getD 0] := by
  have h : k < l.reverse.length := by simpa using hk
  rw [List.take_add_one, List.getElem?_eq_getElem h]
  simp [List.getElem_reverse, show l.length - 1 - k < l.length by omega]
def backL (l : List Int) : List Int := if validW l = 0 then l.reverse else []

theorem sameInts_same (va vb : Value) (a : List Int) (w : World) (ha : Ints w va a) (hb : Ints w vb a) : Calls Try.prog 12 #[va, vb] w (RQ true w) := by have := sameInts_c va vb a a w ha hb; rwa [sameIntsB_refl] at this

set_option maxHeartbeats 2000000 in
set_option maxRecDepth 100000 in
theorem Same_c (tv lv rv tu lu ru : Value) (x : Rul) (w : World) (hr : RulR w tv lv rv x) (hs : RulR w tu lu ru x) : Calls Try.prog 11 #[.agg #[.int .i64 x.f, tv, lv, rv], .agg #[.int .i64 x.f, tu, lu, ru]] w (RV (.bool true) w) := by
  obtain ⟨wA, hwA⟩ : ∃ wA, wA = (w.alloc (.cells #[.int .i64 x.f, tv, lv, rv] 24)).alloc (.cells #[.int .i64 x.f, tu, lu, ru] 24) := ⟨_, rfl⟩
  have hE0 : Ext w wA := by rw [hwA]; exact (Ext.alloc _ _).trans (Ext.alloc _ _)
  have k0 : ∀ W, Ext wA W → W.cell? ⟨w.heap.size, 0, none⟩ = some (.int .i64 x.f) := by rw [hwA]; exact kept_alloc2 w _ _ _ _ rfl
  have k1 : ∀ W, Ext wA W → W.cell? ⟨w.heap.size, 1, none⟩ = some tv := by rw [hwA]; exact kept_alloc2 w _ _ _ _ rfl
  have k2 : ∀ W, Ext wA W → W.cell? ⟨w.heap.size, 2, none⟩ = some lv := by rw [hwA]; exact kept_alloc2 w _ _ _ _ rfl
  have k3 : ∀ W, Ext wA W → W.cell? ⟨w.heap.size, 3, none⟩ = some rv := by rw [hwA]; exact kept_alloc2 w _ _ _ _ rfl
  have m0 : ∀ W, Ext wA W → W.cell? ⟨w.heap.size + 1, 0, none⟩ = some (.int .i64 x.f) := by rw [hwA]; exact kept_alloc2' w _ _ _ _ rfl
  have m1 : ∀ W, Ext wA W → W.cell? ⟨w.heap.size + 1, 1, none⟩ = some tu := by rw [hwA]; exact kept_alloc2' w _ _ _ _ rfl
  have m2 : ∀ W, Ext wA W → W.cell? ⟨w.heap.size + 1, 2, none⟩ = some lu := by rw [hwA]; exact kept_alloc2' w _ _ _ _ rfl
  have m3 : ∀ W, Ext wA W → W.cell? ⟨w.heap.size + 1, 3, none⟩ = some ru := by rw [hwA]; exact kept_alloc2' w _ _ _ _ rfl
  have H0 : Ext wA wA := Ext.refl _
  have HR := Lib.hid (hr.ext hE0)
  have HS := Lib.hid (hs.ext hE0)
  have HW := Lib.hid hwA; clear hwA hr hs
  go_enter Try.func11, Try.ntmps11
  go_wp2_with fail
  rw [← HW.out]
  refine (sameInts_same tv tu x.t wA (HR.out.t.ext (Ext.refl wA)) (HS.out.t.ext (Ext.refl wA))).mono ?_; rintro e w1 ⟨rfl, n1, hw1⟩
  have hx1 : Ext wA w1 := (Ext.refl wA).trans (by rw [hw1]; exact Ext.drewN _ _)
  clear hw1
  go_wp2_with fail
  refine (sameInts_same lv lu x.l w1 (HR.out.l.ext hx1) (HS.out.l.ext hx1)).mono ?_; rintro e w2 ⟨rfl, n2, hw2⟩
  have hx2 : Ext wA w2 := hx1.trans (by rw [hw2]; exact Ext.drewN _ _)
  clear hw2
  go_wp2_with fail
  refine (sameInts_same rv ru x.r w2 (HR.out.r.ext hx2) (HS.out.r.ext hx2)).mono ?_; rintro e w3 ⟨rfl, n3, hw3⟩
  have hx3 : Ext wA w3 := hx2.trans (by rw [hw3]; exact Ext.drewN _ _)
  clear hw3
  go_wp2_with fail
  go_ret
  exact RV.bool rfl (hE0.trans hx3)
end Go.Proofs.Ythmdecgkbjdabaa

