/- Words of the statements of chapter 02: large, Long, known. -/
import Derived.Test.YthmdecgkbjdabaaRulI
namespace Go.Proofs.Ythmdecgkbjdabaa
open Go.RowKit Go.Shelf
set_option linter.unusedVariables false

/-- a new block of ints reads as its list -/
theorem ints_new (w : World) (l : List Int) (n : Nat) (hn : n = l.length) (hm : n ≤ 1000) : Ints (w.alloc (.cells (l.map (fun i => Value.int .i64 i)).toArray 3)) (.slice (some ⟨w.heap.size, 0, none⟩) n n) l := by
  refine ints_lit hn hm fun i hi => alloc_cell w _ 3 ?_
  rw [List.getElem?_toArray, List.getElem?_map, List.getElem?_eq_getElem (by omega)]
  simp

set_option maxHeartbeats 400000 in
theorem large_c (v : Value) (l : List Int) (w : World) (h : Ints w v l) : Calls Try.prog 5 #[v] w (RV (.bool (decide (100 < l.length))) w) := by
  obtain ⟨a, c, rfl, h1, h2, _⟩ := h.open_
  clear h
  by_cases h : 100 < l.length
  · go_enter Try.func5, Try.ntmps5
    go_wp2_with fail
    go_ret
    exact RV.bool (by simp; omega) (Ext.refl _)
  · go_enter Try.func5, Try.ntmps5
    go_wp2_with fail
    go_ret
    exact RV.bool (by simp; omega) (Ext.refl _)

def longR (x : Rul) : Bool := decide (100 < x.t.length) || (decide (100 < x.l.length) || decide (100 < x.r.length))
set_option maxHeartbeats 1000000 in
theorem Long_c (tv lv rv : Value) (x : Rul) (w : World) (h : RulR w tv lv rv x) : Calls Try.prog 4 #[.agg #[.int .i64 x.f, tv, lv, rv]] w (RV (.bool (longR x)) w) := by
  obtain ⟨wA, hwA⟩ : ∃ wA, wA = w.alloc (.cells #[.int .i64 x.f, tv, lv, rv] 24) := ⟨_, rfl⟩
  have hE0 : Ext w wA := by rw [hwA]; exact Ext.alloc _ _
  have k0 : ∀ W, Ext wA W → W.cell? ⟨w.heap.size, 0, none⟩ = some (.int .i64 x.f) := by rw [hwA]; exact kept_alloc w _ _ rfl
  have k1 : ∀ W, Ext wA W → W.cell? ⟨w.heap.size, 1, none⟩ = some tv := by rw [hwA]; exact kept_alloc w _ _ rfl
  have k2 : ∀ W, Ext wA W → W.cell? ⟨w.heap.size, 2, none⟩ = some lv := by rw [hwA]; exact kept_alloc w _ _ rfl
  have k3 : ∀ W, Ext wA W → W.cell? ⟨w.heap.size, 3, none⟩ = some rv := by rw [hwA]; exact kept_alloc w _ _ rfl
  have H0 : Ext wA wA := Ext.refl _
  have HT := Lib.hid (fun W (hW : Ext wA W) => large_c tv x.t W ((h.t.ext hE0).ext hW))
  have HL := Lib.hid (fun W (hW : Ext wA W) => large_c lv x.l W ((h.l.ext hE0).ext hW))
  have HR := Lib.hid (fun W (hW : Ext wA W) => large_c rv x.r W ((h.r.ext hE0).ext hW))
  have HW := Lib.hid hwA; clear hwA h
  unfold longR
  generalize decide (100 < x.t.length) = b1 at *
  generalize decide (100 < x.l.length) = b2 at *
  generalize decide (100 < x.r.length) = b3 at *
  cases b1
  · cases b2
    · go_enter Try.func4, Try.ntmps4
      go_wp2_with fail
      rw [← HW.out]
      refine (HT.out wA H0).mono ?_; rintro e w1 ⟨rfl, hx1⟩
      go_wp2_with fail
      refine (HL.out w1 hx1).mono ?_; rintro e w2 ⟨rfl, hx2⟩
      have hX2 := hx1.trans hx2
      go_wp2_with fail
      refine (HR.out w2 hX2).mono ?_; rintro e w3 ⟨rfl, hx3⟩
      go_wp2_with fail
      go_ret
      exact RV.bool rfl (hE0.trans (hX2.trans hx3))
    · go_enter Try.func4, Try.ntmps4
      go_wp2_with fail
      rw [← HW.out]
      refine (HT.out wA H0).mono ?_; rintro e w1 ⟨rfl, hx1⟩
      go_wp2_with fail
      refine (HL.out w1 hx1).mono ?_; rintro e w2 ⟨rfl, hx2⟩
      go_wp2_with fail
      go_ret
      exact RV.bool rfl (hE0.trans (hx1.trans hx2))
  · go_enter Try.func4, Try.ntmps4
    go_wp2_with fail
    rw [← HW.out]
    refine (HT.out wA H0).mono ?_; rintro e w1 ⟨rfl, hx1⟩
    go_wp2_with fail
    go_ret
    exact RV.bool rfl (hE0.trans hx1)

def kR : Rul := ⟨0, [1], [1], []⟩
theorem k_all : atAllL kR [1, 0, 0] = [1, 1, 0] := by decide +kernel
theorem k_allK : atAllK kR [1, 0, 0] = 0 := by decide +kernel
theorem k_along : alongL kR [1, 0, 0] = [1, 1, 1] := by decide +kernel
theorem k_alongK : alongK kR [1, 0, 0] = 0 := by decide +kernel
set_option maxHeartbeats 1000000 in
set_option maxRecDepth 100000 in
theorem known_c (w : World) : Calls Try.prog 6 #[] w (RV (.bool true) w) := by
  go_enter Try.func6, Try.ntmps6
  go_wp2_with fail
  obtain ⟨wa, ha⟩ : ∃ W, W = w.alloc (.cells #[.int .i64 1] 3) := ⟨_, rfl⟩
  obtain ⟨wb, hb⟩ : ∃ W, W = wa.alloc (.cells #[.int .i64 1] 3) := ⟨_, rfl⟩
  obtain ⟨wc, hc⟩ : ∃ W, W = wb.alloc (.cells #[.int .i64 0, .slice (some ⟨w.heap.size, 0, none⟩) 1 1, .slice (some ⟨w.heap.size + 1, 0, none⟩) 1 1, .slice none 0 0] 24) := ⟨_, rfl⟩
  obtain ⟨wd, hd⟩ : ∃ W, W = wc.alloc (.cells #[.int .i64 1, .int .i64 0, .int .i64 0] 3) := ⟨_, rfl⟩
  rw [← ha, ← hb, ← hc, ← hd]
  have za : wa.heap.size = w.heap.size + 1 := by rw [ha]; simp
  have zb : wb.heap.size = w.heap.size + 1 + 1 := by rw [hb]; simp [za]
  have zc : wc.heap.size = w.heap.size + 1 + 1 + 1 := by rw [hc]; simp [zb]
  have xa : Ext w wa := by rw [ha]; exact Ext.alloc _ _
  have xb : Ext wa wb := by rw [hb]; exact Ext.alloc _ _
  have xc : Ext wb wc := by rw [hc]; exact Ext.alloc _ _
  have xd : Ext wc wd := by rw [hd]; exact Ext.alloc _ _
  have i1 : Ints wa (.slice (some ⟨w.heap.size, 0, none⟩) 1 1) [1] := by rw [ha]; exact ints_new w [1] 1 rfl (by omega)
  have i2 : Ints wb (.slice (some ⟨w.heap.size + 1, 0, none⟩) 1 1) [1] := by rw [hb, ← za]; exact ints_new wa [1] 1 rfl (by omega)
  have i3 : Ints wd (.slice (some ⟨w.heap.size + 1 + 1 + 1, 0, none⟩) 3 3) [1, 0, 0] := by rw [hd, ← zc]; exact ints_new wc [1, 0, 0] 3 rfl (by omega)
  have k0 : ∀ W, Ext wc W → W.cell? ⟨w.heap.size + 1 + 1, 0, none⟩ = some (.int .i64 0) := by rw [hc, ← zb]; exact kept_alloc wb _ _ rfl
  have k1 : ∀ W, Ext wc W → W.cell? ⟨w.heap.size + 1 + 1, 1, none⟩ = some (.slice (some ⟨w.heap.size, 0, none⟩) 1 1) := by rw [hc, ← zb]; exact kept_alloc wb _ _ rfl
  have k2 : ∀ W, Ext wc W → W.cell? ⟨w.heap.size + 1 + 1, 2, none⟩ = some (.slice (some ⟨w.heap.size + 1, 0, none⟩) 1 1) := by rw [hc, ← zb]; exact kept_alloc wb _ _ rfl
  have k3 : ∀ W, Ext wc W → W.cell? ⟨w.heap.size + 1 + 1, 3, none⟩ = some (.slice none 0 0) := by rw [hc, ← zb]; exact kept_alloc wb _ _ rfl
  have HRR := Lib.hid (fun W (hW : Ext wd W) => show RulR W (.slice (some ⟨w.heap.size, 0, none⟩) 1 1) (.slice (some ⟨w.heap.size + 1, 0, none⟩) 1 1) (.slice none 0 0) kR from ⟨i1.ext (((xb.trans xc).trans xd).trans hW), i2.ext ((xc.trans xd).trans hW), ints_nil_c W⟩)
  have HAA := Lib.hid (AtAll_c _ _ _ _ kR [1, 0, 0] wd (HRR.out wd (Ext.refl _)) i3)
  rw [k_all, k_allK] at HAA
  have XD := ((xa.trans xb).trans xc).trans xd
  clear ha hb hc hd xa xb i1 i2 i3 za zb zc
  refine HAA.out.mono ?_; rintro e w5 ⟨v5, rfl, ho5, hx5⟩
  have HI5 := Lib.hid ho5.ints; clear ho5
  have hX5 := xd.trans hx5
  go_wp2_with fail
  have hA6 := Ext.alloc w5 (.cells #[.int .i64 1, .int .i64 0, .int .i64 0] 3)
  have HAL := Lib.hid (Along_c _ _ _ _ kR [1, 0, 0] _ (HRR.out _ (hx5.trans hA6)) (ints_new w5 [1, 0, 0] 3 rfl (by omega)))
  rw [k_along, k_alongK] at HAL
  refine HAL.out.mono ?_; rintro e w7 ⟨v7, rfl, ho7, hx7⟩
  have HI7 := Lib.hid ho7.ints; clear ho7
  have hX7 := hx5.trans (hA6.trans hx7)
  have h57 := hA6.trans hx7
  have hA8 := Ext.alloc w7 (.cells #[.int .i64 1, .int .i64 1, .int .i64 0] 3)
  have HS1 := Lib.hid (sameInts_c v5 _ _ _ _ (HI5.out.ext (h57.trans hA8)) (ints_new w7 [1, 1, 0] 3 rfl (by omega)))
  rw [sameIntsB_refl] at HS1
  go_wp2_with fail
  refine HS1.out.mono ?_; rintro e w9 ⟨rfl, n9, hw9⟩
  have hx9 : Ext (w7.alloc (.cells #[.int .i64 1, .int .i64 1, .int .i64 0] 3)) w9 := by rw [hw9]; exact Ext.drewN _ _
  clear hw9
  have h79 := hA8.trans hx9
  have hA10 := Ext.alloc w9 (.cells #[.int .i64 1, .int .i64 1, .int .i64 1] 3)
  have HS2 := Lib.hid (sameInts_c v7 _ _ _ _ (HI7.out.ext (h79.trans hA10)) (ints_new w9 [1, 1, 1] 3 rfl (by omega)))
  rw [sameIntsB_refl] at HS2
  go_wp2_with fail
  refine HS2.out.mono ?_; rintro e w11 ⟨rfl, n11, hw11⟩
  have hx11 : Ext (w9.alloc (.cells #[.int .i64 1, .int .i64 1, .int .i64 1] 3)) w11 := by rw [hw11]; exact Ext.drewN _ _
  clear hw11
  go_wp2_with fail
  go_ret
  exact RV.bool rfl (((XD.trans hX7).trans h79).trans (hA10.trans hx11))
end Go.Proofs.Ythmdecgkbjdabaa

