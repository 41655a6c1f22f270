/- MachineComposes: for every input the call returns true. No condition. -/
import Derived.Test.YtodhmkbkcjpnkaaMacS
import Derived.Test.YtodhmkbkcjpnkaaREith
namespace Go.Proofs.Ytodhmkbkcjpnkaa
open Go.RowKit Go.Shelf
set_option linter.unusedVariables false
theorem RMac2.open6 {m : Mac} {k : Int} {w w' : World} {e : Ending} (h : RMac2 m k w e w') : ∃ a1 c1 a2 c2, e = .returned (.tuple #[.agg #[.int .i64 m.s, .slice a1 m.a.length c1, .slice a2 m.e.length c2], .int .i64 k]) ∧ MacR w' (.slice a1 m.a.length c1) (.slice a2 m.e.length c2) m ∧ Ext w w' := by
  obtain ⟨av, ev, rfl, hM, hx⟩ := h
  obtain ⟨a1, c1, rfl, _⟩ := hM.a.open_
  obtain ⟨a2, c2, rfl, _⟩ := hM.e.open_
  exact ⟨a1, c1, a2, c2, rfl, hM, hx⟩
set_option maxHeartbeats 4000000 in
set_option maxRecDepth 100000 in
theorem machineComposes_c (av ev : Value) (m : Mac) (bv fv : Value) (n : Mac) (w : World) (h : MacR w av ev m) (k : MacR w bv fv n) :
    Calls Try.prog 14 #[.agg #[.int .i64 m.s, av, ev], .agg #[.int .i64 n.s, bv, fv]] w (RV (.bool true) w) := by
  obtain ⟨aa, ca, rfl, hla, hma, HA⟩ := h.a.open_
  obtain ⟨ae, ce, rfl, hle, hme, HE⟩ := h.e.open_
  obtain ⟨ba, da, rfl, hlb, hmb, HB⟩ := k.a.open_
  obtain ⟨be, de, rfl, hlf, hmf, HF⟩ := k.e.open_
  obtain ⟨wA1, hwA1⟩ : ∃ W, W = w.alloc (.cells #[.int .i64 m.s, .slice aa m.a.length ca, .slice ae m.e.length ce] 25) := ⟨_, rfl⟩
  obtain ⟨wA, hwA⟩ : ∃ W, W = wA1.alloc (.cells #[.int .i64 n.s, .slice ba n.a.length da, .slice be n.e.length de] 25) := ⟨_, rfl⟩
  have z1 : wA1.heap.size = w.heap.size + 1 := by rw [hwA1]; simp
  have x1_ : Ext w wA1 := by rw [hwA1]; exact Ext.alloc _ _
  have x2_ : Ext wA1 wA := by rw [hwA]; exact Ext.alloc _ _
  have hE0 : Ext w wA := x1_.trans x2_
  have hb1 : Blk wA w.heap.size 25 _ := (show Blk wA1 w.heap.size 25 [.int .i64 m.s, .slice aa m.a.length ca, .slice ae m.e.length ce] by rw [hwA1]; exact Blk.alloc w _ _).ext x2_
  have hb2 : Blk wA (w.heap.size + 1) 25 [.int .i64 n.s, .slice ba n.a.length da, .slice be n.e.length de] := by rw [hwA, ← z1]; exact Blk.alloc wA1 _ _
  have k0 := fun W (hW : Ext wA W) => hW.keep (hb1.cell (i := 0) rfl)
  have k1 := fun W (hW : Ext wA W) => hW.keep (hb1.cell (i := 1) rfl)
  have k2 := fun W (hW : Ext wA W) => hW.keep (hb1.cell (i := 2) rfl)
  have l0 := fun W (hW : Ext wA W) => hW.keep (hb2.cell (i := 0) rfl)
  have l1 := fun W (hW : Ext wA W) => hW.keep (hb2.cell (i := 1) rfl)
  have l2 := fun W (hW : Ext wA W) => hW.keep (hb2.cell (i := 2) rfl)
  have H0 := Ext.refl wA
  have HR := Lib.hid (h.ext hE0)
  have HRN := Lib.hid (k.ext hE0)
  have HLM := Lib.hid (Long_c _ _ _ m [] wA HR.out (Rows.nil wA))
  have HLN := Lib.hid (fun W (hW : Ext wA W) => Long_c _ _ _ n [] W (HRN.out.ext hW) (Rows.nil W))
  have HW := Lib.hid (show wA = (w.alloc (.cells #[.int .i64 m.s, .slice aa m.a.length ca, .slice ae m.e.length ce] 25)).alloc (.cells #[.int .i64 n.s, .slice ba n.a.length da, .slice be n.e.length de] 25) by rw [hwA, hwA1])
  clear hwA hwA1 z1 x1_ x2_ hb1 hb2 h k
  generalize longM m [] = b1 at *
  generalize longM n [] = b2 at *
  cases b1
  · cases b2
    · go_enter Try.func14, Try.ntmps14
      go_wp2_with fail
      rw [← HW.out]
      refine HLM.out.mono ?_; rintro e w2 ⟨rfl, hx2⟩
      go_wp2_with fail
      refine (HLN.out w2 hx2).mono ?_; rintro e w3 ⟨rfl, hx3⟩
      have hX3 := hx2.trans hx3
      go_wp2_with fail
      have HC1 := Lib.hid (fun W (hW : Ext wA W) => Compose_c _ _ _ _ m n W (HR.out.ext hW) (HRN.out.ext hW))
      have HC2 := Lib.hid (fun W (hW : Ext wA W) => rCompose_c _ _ _ _ m n W (HR.out.ext hW) (HRN.out.ext hW))
      have HC3 := Lib.hid (fun W (hW : Ext wA W) => Either_c _ _ _ _ m n W (HR.out.ext hW) (HRN.out.ext hW))
      have HC4 := Lib.hid (fun W (hW : Ext wA W) => rEither_c _ _ _ _ m n W (HR.out.ext hW) (HRN.out.ext hW))
      generalize composeM m n = CM at *
      generalize composeK m n = ck at *
      generalize eitherM m n = EM at *
      generalize eitherK m n = ek at *
      have hck : (ck == ck) = true := by simp
      have hek : (ek == ek) = true := by simp
      refine (HC1.out w3 hX3).mono ?_; intro e w4 hr
      obtain ⟨a4, c4, b4, d4, rfl, hM4, hx4⟩ := hr.open6
      clear hr
      obtain ⟨w5, hw5⟩ : ∃ W, W = w4.alloc (.cells #[.int .i64 CM.s, .slice a4 CM.a.length c4, .slice b4 CM.e.length d4] 25) := ⟨_, rfl⟩
      have hY4 : Ext w4 w5 := by rw [hw5]; exact Ext.alloc _ _
      have p0 : ∀ W, Ext w5 W → W.cell? ⟨w4.heap.size, 0, none⟩ = some (.int .i64 CM.s) := by rw [hw5]; exact kept_alloc w4 _ _ rfl
      have p1 : ∀ W, Ext w5 W → W.cell? ⟨w4.heap.size, 1, none⟩ = some (.slice a4 CM.a.length c4) := by rw [hw5]; exact kept_alloc w4 _ _ rfl
      have p2 : ∀ W, Ext w5 W → W.cell? ⟨w4.heap.size, 2, none⟩ = some (.slice b4 CM.e.length d4) := by rw [hw5]; exact kept_alloc w4 _ _ rfl
      have HM4 := Lib.hid (hM4.ext hY4)
      have hX5 : Ext wA w5 := hX3.trans (hx4.trans hY4)
      have hZ5 : Ext w3 w5 := hx4.trans hY4
      have HB4 := Lib.hid hw5; clear hw5 hM4
      go_upto_region 4 with fail
      rw [← HB4.out]
      go_wp2_with fail
      refine (HC2.out w5 hX5).mono ?_; intro e w6 hr
      obtain ⟨a6, c6, b6, d6, rfl, hM6, hx6⟩ := hr.open6
      clear hr
      obtain ⟨w7, hw7⟩ : ∃ W, W = w6.alloc (.cells #[.int .i64 CM.s, .slice a6 CM.a.length c6, .slice b6 CM.e.length d6] 25) := ⟨_, rfl⟩
      have hY6 : Ext w6 w7 := by rw [hw7]; exact Ext.alloc _ _
      have q0 : ∀ W, Ext w7 W → W.cell? ⟨w6.heap.size, 0, none⟩ = some (.int .i64 CM.s) := by rw [hw7]; exact kept_alloc w6 _ _ rfl
      have q1 : ∀ W, Ext w7 W → W.cell? ⟨w6.heap.size, 1, none⟩ = some (.slice a6 CM.a.length c6) := by rw [hw7]; exact kept_alloc w6 _ _ rfl
      have q2 : ∀ W, Ext w7 W → W.cell? ⟨w6.heap.size, 2, none⟩ = some (.slice b6 CM.e.length d6) := by rw [hw7]; exact kept_alloc w6 _ _ rfl
      have HM6 := Lib.hid (hM6.ext hY6)
      have hX7 : Ext wA w7 := hX5.trans (hx6.trans hY6)
      have hZ7 : Ext w5 w7 := hx6.trans hY6
      have HB6 := Lib.hid hw7; clear hw7 hM6
      go_upto_region 5 with fail
      rw [← HB6.out]
      go_wp2_with fail
      refine (HC3.out w7 hX7).mono ?_; intro e w8 hr
      obtain ⟨a8, c8, b8, d8, rfl, hM8, hx8⟩ := hr.open6
      clear hr
      obtain ⟨w9, hw9⟩ : ∃ W, W = w8.alloc (.cells #[.int .i64 EM.s, .slice a8 EM.a.length c8, .slice b8 EM.e.length d8] 25) := ⟨_, rfl⟩
      have hY8 : Ext w8 w9 := by rw [hw9]; exact Ext.alloc _ _
      have r0 : ∀ W, Ext w9 W → W.cell? ⟨w8.heap.size, 0, none⟩ = some (.int .i64 EM.s) := by rw [hw9]; exact kept_alloc w8 _ _ rfl
      have r1 : ∀ W, Ext w9 W → W.cell? ⟨w8.heap.size, 1, none⟩ = some (.slice a8 EM.a.length c8) := by rw [hw9]; exact kept_alloc w8 _ _ rfl
      have r2 : ∀ W, Ext w9 W → W.cell? ⟨w8.heap.size, 2, none⟩ = some (.slice b8 EM.e.length d8) := by rw [hw9]; exact kept_alloc w8 _ _ rfl
      have HM8 := Lib.hid (hM8.ext hY8)
      have hX9 : Ext wA w9 := hX7.trans (hx8.trans hY8)
      have hZ9 : Ext w7 w9 := hx8.trans hY8
      have HB8 := Lib.hid hw9; clear hw9 hM8
      go_upto_region 6 with fail
      rw [← HB8.out]
      go_wp2_with fail
      refine (HC4.out w9 hX9).mono ?_; intro e w10 hr
      obtain ⟨a10, c10, b10, d10, rfl, hM10, hx10⟩ := hr.open6
      clear hr
      obtain ⟨w11, hw11⟩ : ∃ W, W = w10.alloc (.cells #[.int .i64 EM.s, .slice a10 EM.a.length c10, .slice b10 EM.e.length d10] 25) := ⟨_, rfl⟩
      have hY10 : Ext w10 w11 := by rw [hw11]; exact Ext.alloc _ _
      have s0 : ∀ W, Ext w11 W → W.cell? ⟨w10.heap.size, 0, none⟩ = some (.int .i64 EM.s) := by rw [hw11]; exact kept_alloc w10 _ _ rfl
      have s1 : ∀ W, Ext w11 W → W.cell? ⟨w10.heap.size, 1, none⟩ = some (.slice a10 EM.a.length c10) := by rw [hw11]; exact kept_alloc w10 _ _ rfl
      have s2 : ∀ W, Ext w11 W → W.cell? ⟨w10.heap.size, 2, none⟩ = some (.slice b10 EM.e.length d10) := by rw [hw11]; exact kept_alloc w10 _ _ rfl
      have HM10 := Lib.hid (hM10.ext hY10)
      have hX11 : Ext wA w11 := hX9.trans (hx10.trans hY10)
      have hZ11 : Ext w9 w11 := hx10.trans hY10
      have HB10 := Lib.hid hw11; clear hw11 hM10
      go_upto_region 7 with fail
      rw [← HB10.out]
      have e11 : Ext w11 w11 := Ext.refl _
      have e9 : Ext w9 w11 := hZ11
      have e7 : Ext w7 w11 := hZ9.trans hZ11
      have e5 : Ext w5 w11 := hZ7.trans (hZ9.trans hZ11)
      have HS1 := Lib.hid (same_c _ _ _ _ CM w11 (HM4.out.ext e5) (HM6.out.ext e7))
      go_wp2_with fail
      refine HS1.out.mono ?_; rintro e w12 ⟨rfl, hx12⟩
      have f11 : Ext w11 w12 := hx12
      have f9 : Ext w9 w12 := hZ11.trans hx12
      have hX12 := hX11.trans hx12
      have HS2 := Lib.hid (same_c _ _ _ _ EM w12 (HM8.out.ext f9) (HM10.out.ext f11))
      clear HS1 p0 p1 p2 q0 q1 q2 e5 e7
      go_wp2_with fail
      refine HS2.out.mono ?_; rintro e w13 ⟨rfl, hx13⟩
      have hX13 := hX12.trans hx13
      clear r0 r1 r2 s0 s1 s2 HS2
      go_wp2_with fail
      refine (sane_c _).mono ?_; rintro e wK ⟨rfl, hxK⟩
      go_wp2_with fail
      go_ret
      exact RV.bool rfl (hE0.trans (hX13.trans hxK))

    · go_enter Try.func14, Try.ntmps14
      go_wp2_with fail
      rw [← HW.out]
      refine HLM.out.mono ?_; rintro e w2 ⟨rfl, hx2⟩
      go_wp2_with fail
      refine (HLN.out w2 hx2).mono ?_; rintro e w3 ⟨rfl, hx3⟩
      have hX3 := hx2.trans hx3
      go_wp2_with fail
      refine (sane_c _).mono ?_; rintro e wK ⟨rfl, hxK⟩
      go_wp2_with fail
      go_ret
      exact RV.bool rfl (hE0.trans (hX3.trans hxK))

  · go_enter Try.func14, Try.ntmps14
    go_wp2_with fail
    rw [← HW.out]
    refine HLM.out.mono ?_; rintro e w2 ⟨rfl, hx2⟩
    go_wp2_with fail
    refine (sane_c _).mono ?_; rintro e wK ⟨rfl, hxK⟩
    go_wp2_with fail
    go_ret
    exact RV.bool rfl (hE0.trans (hx2.trans hxK))

end Go.Proofs.Ytodhmkbkcjpnkaa
