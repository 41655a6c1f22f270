/- Walks: Without, both packages. -/
import Derived.Test.YtoepnpjjmfhnnaaNeed
namespace Go.Proofs.Ytoepnpjjmfhnnaa
open Go.RowKit Go.Shelf
set_option linter.unusedVariables false

def woS (sizes : List Int) (es : List Ent) (i : Int) : List Int := if nK sizes es i i = 0 then sizes else []
def woE (sizes : List Int) (es : List Ent) (i : Int) : List Ent := if nK sizes es i i = 0 then es.eraseIdx i.toNat else []
theorem ints_one_c {w : World} {b : Nat} {i : Int} (hs : w.heap.size = b) : Ints (w.alloc (.cells #[.int .i64 i] 3)) (.slice (some ⟨b, 0, none⟩) 1 1) [i] := by
  subst hs
  refine ⟨some ⟨w.heap.size, 0, none⟩, 1, rfl, Nat.le_refl _, by unfold maxLen; omega, fun k hk => ⟨_, _, rfl, ?_⟩⟩
  obtain rfl : k = 0 := by simp at hk; omega
  exact alloc_cell w _ _ rfl

set_option maxHeartbeats 1000000 in
set_option maxRecDepth 100000 in
theorem Without_c (sv ev : Value) (sizes : List Int) (es : List Ent) (i : Int) (w : World) (hp : Par w sv ev sizes es) :
    Calls Try.prog 57 #[.agg #[sv, ev], .int .i64 i] w (RP2 (woS sizes es i) (woE sizes es i) (nK sizes es i i) w) := by
  have HP := Lib.hid hp
  clear hp
  obtain ⟨wA, hwA⟩ : ∃ wA, wA = ((w.alloc (.cells #[sv, ev] 25)).alloc (.cells #[.slice none 0 0, .slice none 0 0] 25)).alloc (.cells #[.int .i64 i] 3) := ⟨_, rfl⟩
  have hE0 : Ext w wA := by rw [hwA]; exact ((Ext.alloc _ _).trans (Ext.alloc _ _)).trans (Ext.alloc _ _)
  have hz1 : BoxP wA w.heap.size sv ev := by rw [hwA]; exact ((BoxP.new w _ _ rfl).ext (Ext.alloc _ _)).ext (Ext.alloc _ _)
  have hz2 : BoxP wA (w.heap.size + 1) (.slice none 0 0) (.slice none 0 0) := by rw [hwA]; exact (BoxP.new _ _ _ (by simp)).ext (Ext.alloc _ _)
  have hb0 := hz1.c0
  have hb1 := hz1.c1
  have HNB := Lib.hid (show Calls Try.prog 73 #[.agg #[sv, ev], .slice (some ⟨w.heap.size + 1 + 1, 0, none⟩) 1 1] wA (RV (.int .i64 (nK sizes es i i)) wA) by
    rw [← numsI_one]; exact numbered_c sv ev _ sizes es [i] _ (HP.out.ext hE0) (by rw [hwA]; exact ints_one_c (by simp)))
  have HW := Lib.hid hwA; clear hwA hz1
  by_cases h0 : nK sizes es i i = 0
  · obtain ⟨V, a, _, rfl, hbb, hai, _⟩ := nK_zero h0
    clear hbb
    rw [show woS sizes es a = sizes by rw [woS, if_pos h0], show woE sizes es a = es.eraseIdx a by rw [woE, if_pos h0]; rfl]
    rw [h0] at HNB
    rw [h0]
    have hen := V.n
    have VV := Lib.hid V
    clear h0 V
    go_enter Try.func57, Try.ntmps57
    go_wp2_with fail
    rw [← HW.out]
    refine HNB.out.mono ?_; rintro e w1 ⟨rfl, hB⟩
    have hb0 := hB.keep hb0
    have hb1 := hB.keep hb1
    have hX := hE0.trans hB
    have hrb := hz2.ext hB
    have hs1 := hX.size
    go_wp2_with fail
    refine (without_c sv ev sizes es a w1 (HP.out.ext hX) hai (by omega) (by have := VV.out.ok.2.1; omega) (fun i hi => by rw [VV.out.len i hi]; have := VV.out.ok.2.1; omega)).mono ?_; rintro e w2 ⟨sv2, ev2, rfl, hov, hoe, hx2⟩
    have hX2 := hX.trans hx2
    have hrb2 := hrb.ext hx2
    have hov := OInts.low hov (show w.heap.size ≤ w1.heap.size by omega)
    have hoe := OEnts.low hoe (show w.heap.size ≤ w1.heap.size by omega)
    obtain ⟨a2, c2, rfl, _⟩ := hov.ints.open_
    obtain ⟨a3, c3, rfl, _⟩ := hoe.ents.open_
    have r0 := hrb2.c0
    have r1 := hrb2.c1
    have rf0 := hrb2.frozen 0
    have rf1 := hrb2.frozen 1
    obtain ⟨HF, hp1⟩ := fin2 0 hrb2 (by omega) hov hoe hX2
    have HFIN := Lib.hid HF; clear HF
    have p0 := hp1.c0
    have p1 := hp1.c1
    clear hp1 hrb hrb2
    go_wp2_with fail
    refine bodyPost_ret (v := .tuple #[.agg #[.slice a2 sizes.length c2, .slice a3 (es.eraseIdx a).length c3], .int .i64 0]) ?_ rfl HFIN.out
    simp [results, Try.results57, go_sem, p0, p1]
  · rw [show woS sizes es i = [] by rw [woS, if_neg h0], show woE sizes es i = [] by rw [woE, if_neg h0]]
    generalize nK sizes es i i = k at *
    have hkn : (k != 0) = true := by simp [h0]
    clear h0
    go_enter Try.func57, Try.ntmps57
    go_wp2_with fail
    rw [← HW.out]
    refine HNB.out.mono ?_; rintro e w1 ⟨rfl, hB⟩
    have hrb := hz2.ext hB
    have hX := hE0.trans hB
    have r0 := hrb.c0
    have r1 := hrb.c1
    have rf0 := hrb.frozen 0
    have rf1 := hrb.frozen 1
    obtain ⟨HF, hp1⟩ := fin2 k hrb (by omega) (OInts.nil _ _ _) (OEnts.nil _ _) hX
    have HFIN := Lib.hid HF; clear HF
    have q0 := hp1.c0
    have q1 := hp1.c1
    clear hp1 hrb
    go_wp2_with fail
    refine bodyPost_ret (v := .tuple #[.agg #[.slice none 0 0, .slice none 0 0], .int .i64 k]) ?_ rfl HFIN.out
    simp [results, Try.results57, go_sem, q0, q1]

set_option maxHeartbeats 1000000 in
set_option maxRecDepth 100000 in
theorem rWithout_c (sv ev : Value) (sizes : List Int) (es : List Ent) (i : Int) (w : World) (hp : Par w sv ev sizes es) :
    Calls Try.prog 58 #[.agg #[sv, ev], .int .i64 i] w (RP2 (woS sizes es i) (woE sizes es i) (nK sizes es i i) w) := by
  have HP := Lib.hid hp
  clear hp
  obtain ⟨wA, hwA⟩ : ∃ wA, wA = (w.alloc (.cells #[sv, ev] 25)).alloc (.cells #[.slice none 0 0, .slice none 0 0] 25) := ⟨_, rfl⟩
  have hE0 : Ext w wA := by rw [hwA]; exact (Ext.alloc _ _).trans (Ext.alloc _ _)
  have hz1 : BoxP wA w.heap.size sv ev := by rw [hwA]; exact (BoxP.new w _ _ rfl).ext (Ext.alloc _ _)
  have hz2 : BoxP wA (w.heap.size + 1) (.slice none 0 0) (.slice none 0 0) := by rw [hwA]; exact BoxP.new _ _ _ (by simp)
  have hb0 := hz1.c0
  have hb1 := hz1.c1
  have HNB := Lib.hid (rNumbered_c sv ev sizes es i i wA (HP.out.ext hE0))
  have HW := Lib.hid hwA; clear hwA hz1
  by_cases h0 : nK sizes es i i = 0
  · obtain ⟨V, a, _, rfl, hbb, hai, _⟩ := nK_zero h0
    clear hbb
    rw [show woS sizes es a = sizes by rw [woS, if_pos h0], show woE sizes es a = es.eraseIdx a by rw [woE, if_pos h0]; rfl]
    rw [h0] at HNB
    rw [h0]
    have hen := V.n
    have VV := Lib.hid V
    clear h0 V
    go_enter Try.func58, Try.ntmps58
    go_wp2_with fail
    rw [← HW.out]
    refine HNB.out.mono ?_; rintro e w1 ⟨rfl, hB⟩
    have hb0 := hB.keep hb0
    have hb1 := hB.keep hb1
    have hX := hE0.trans hB
    have hrb := hz2.ext hB
    have hs1 := hX.size
    go_wp2_with fail
    refine (drop_c sv ev sizes es a w1 (HP.out.ext hX) hai (by omega)).mono ?_; rintro e w1' ⟨ev1, rfl, hen, hx1⟩
    have HEN := Lib.hid hen; clear hen
    go_wp2_with fail
    have VE := Lib.hid (erase_valid VV.out hai)
    refine (rCopy_c sv ev1 sizes (es.eraseIdx a) w1' ⟨(HP.out.s.ext hX).ext hx1, HEN.out⟩ (by have := VE.out.n; omega) (by have := VV.out.ok.2.1; omega) (fun i hi => by rw [VE.out.len i hi]; have := VV.out.ok.2.1; omega)).mono ?_; rintro e w2 ⟨sv2, ev2, rfl, hov, hoe, hx2⟩
    have hX2 := (hX.trans hx1).trans hx2
    have hrb2 := (hrb.ext hx1).ext hx2
    have hs2 := hx1.size
    have hov := OInts.low hov (show w.heap.size ≤ w1'.heap.size by omega)
    have hoe := OEnts.low hoe (show w.heap.size ≤ w1'.heap.size by omega)
    obtain ⟨a2, c2, rfl, _⟩ := hov.ints.open_
    obtain ⟨a3, c3, rfl, _⟩ := hoe.ents.open_
    have r0 := hrb2.c0
    have r1 := hrb2.c1
    have rf0 := hrb2.frozen 0
    have rf1 := hrb2.frozen 1
    obtain ⟨HF, hp1⟩ := fin2 0 hrb2 (by omega) hov hoe hX2
    have HFIN := Lib.hid HF; clear HF
    have p0 := hp1.c0
    have p1 := hp1.c1
    clear hp1 hrb hrb2
    go_wp2_with fail
    refine bodyPost_ret (v := .tuple #[.agg #[.slice a2 sizes.length c2, .slice a3 (es.eraseIdx a).length c3], .int .i64 0]) ?_ rfl HFIN.out
    simp [results, Try.results58, go_sem, p0, p1]
  · rw [show woS sizes es i = [] by rw [woS, if_neg h0], show woE sizes es i = [] by rw [woE, if_neg h0]]
    generalize nK sizes es i i = k at *
    have hkn : (k != 0) = true := by simp [h0]
    clear h0
    go_enter Try.func58, Try.ntmps58
    go_wp2_with fail
    rw [← HW.out]
    refine HNB.out.mono ?_; rintro e w1 ⟨rfl, hB⟩
    have hrb := hz2.ext hB
    have hX := hE0.trans hB
    have r0 := hrb.c0
    have r1 := hrb.c1
    have rf0 := hrb.frozen 0
    have rf1 := hrb.frozen 1
    obtain ⟨HF, hp1⟩ := fin2 k hrb (by omega) (OInts.nil _ _ _) (OEnts.nil _ _) hX
    have HFIN := Lib.hid HF; clear HF
    have q0 := hp1.c0
    have q1 := hp1.c1
    clear hp1 hrb
    go_wp2_with fail
    refine bodyPost_ret (v := .tuple #[.agg #[.slice none 0 0, .slice none 0 0], .int .i64 k]) ?_ rfl HFIN.out
    simp [results, Try.results58, go_sem, q0, q1]
end Go.Proofs.Ytoepnpjjmfhnnaa

