/- MachineEithers: for every input the call returns true. No condition. -/
import Derived.Test.YtodhmkbkcjpnkaaMacS
import Derived.Test.YtodhmkbkcjpnkaaEith
import Derived.Test.YtodhmkbkcjpnkaaEithL
namespace Go.Proofs.Ytodhmkbkcjpnkaa
open Go.RowKit Go.Shelf
set_option linter.unusedVariables false
theorem RMac2.open5 {m : Mac} {k : Int} {w w' : World} {e : Ending} (h : RMac2 m k w e w') : ∃ a1 c1 a2 c2, e = .returned (.tuple #[.agg #[.int .i64 m.s, .slice a1 m.a.length c1, .slice a2 m.e.length c2], .int .i64 k]) ∧ MacR w' (.slice a1 m.a.length c1) (.slice a2 m.e.length c2) m ∧ Ext w w' := by
  obtain ⟨av, ev, rfl, hM, hx⟩ := h
  obtain ⟨a1, c1, rfl, _⟩ := hM.a.open_
  obtain ⟨a2, c2, rfl, _⟩ := hM.e.open_
  exact ⟨a1, c1, a2, c2, rfl, hM, hx⟩
set_option maxHeartbeats 4000000 in
set_option maxRecDepth 100000 in
theorem machineEithers_c (av ev : Value) (m : Mac) (bv fv : Value) (n : Mac) (xv uv vv : Value) (x u v : List Int) (w : World) (h : MacR w av ev m) (k : MacR w bv fv n) (hx : Ints w xv x) (hu : Ints w uv u) (hv : Ints w vv v) :
    Calls Try.prog 16 #[.agg #[.int .i64 m.s, av, ev], .agg #[.int .i64 n.s, bv, fv], .agg #[xv, uv, vv]] w (RV (.bool true) w) := by
  obtain ⟨aa, ca, rfl, hla, hma, HA⟩ := h.a.open_
  obtain ⟨ae, ce, rfl, hle, hme, HE⟩ := h.e.open_
  obtain ⟨ba, da, rfl, hlb, hmb, HB⟩ := k.a.open_
  obtain ⟨be, de, rfl, hlf, hmf, HF⟩ := k.e.open_
  obtain ⟨ax, cx, rfl, _, _, _⟩ := hx.open_
  obtain ⟨au, cu, rfl, _, _, _⟩ := hu.open_
  obtain ⟨av, cv, rfl, _, _, _⟩ := hv.open_
  obtain ⟨wA1, hwA1⟩ : ∃ W, W = w.alloc (.cells #[.int .i64 m.s, .slice aa m.a.length ca, .slice ae m.e.length ce] 25) := ⟨_, rfl⟩
  obtain ⟨wA2, hwA2⟩ : ∃ W, W = wA1.alloc (.cells #[.int .i64 n.s, .slice ba n.a.length da, .slice be n.e.length de] 25) := ⟨_, rfl⟩
  obtain ⟨wA, hwA⟩ : ∃ W, W = wA2.alloc (.cells #[.slice ax x.length cx, .slice au u.length cu, .slice av v.length cv] 58) := ⟨_, rfl⟩
  have z1 : wA1.heap.size = w.heap.size + 1 := by rw [hwA1]; simp
  have z2 : wA2.heap.size = w.heap.size + 2 := by rw [hwA2]; simp [z1]
  have z3 : wA.heap.size = w.heap.size + 3 := by rw [hwA]; simp [z2]
  have x1_ : Ext w wA1 := by rw [hwA1]; exact Ext.alloc _ _
  have x2_ : Ext wA1 wA2 := by rw [hwA2]; exact Ext.alloc _ _
  have x3_ : Ext wA2 wA := by rw [hwA]; exact Ext.alloc _ _
  have hE0 : Ext w wA := x1_.trans (x2_.trans x3_)
  have hb1 : Blk wA w.heap.size 25 _ := (show Blk wA1 w.heap.size 25 [.int .i64 m.s, .slice aa m.a.length ca, .slice ae m.e.length ce] by rw [hwA1]; exact Blk.alloc w _ _).ext (x2_.trans x3_)
  have hb2 : Blk wA (w.heap.size + 1) 25 _ := (show Blk wA2 (w.heap.size + 1) 25 [.int .i64 n.s, .slice ba n.a.length da, .slice be n.e.length de] by rw [hwA2, ← z1]; exact Blk.alloc wA1 _ _).ext x3_
  have hb3 : Blk wA (w.heap.size + 2) 58 [.slice ax x.length cx, .slice au u.length cu, .slice av v.length cv] := by rw [hwA, ← z2]; exact Blk.alloc wA2 _ _
  have k0 := fun W (hW : Ext wA W) => hW.keep (hb1.cell (i := 0) rfl)
  have k1 := fun W (hW : Ext wA W) => hW.keep (hb1.cell (i := 1) rfl)
  have k2 := fun W (hW : Ext wA W) => hW.keep (hb1.cell (i := 2) rfl)
  have l0 := fun W (hW : Ext wA W) => hW.keep (hb2.cell (i := 0) rfl)
  have l1 := fun W (hW : Ext wA W) => hW.keep (hb2.cell (i := 1) rfl)
  have l2 := fun W (hW : Ext wA W) => hW.keep (hb2.cell (i := 2) rfl)
  have j1 := fun W (hW : Ext wA W) => hW.keep (hb3.cell (i := 1) rfl)
  have j2 := fun W (hW : Ext wA W) => hW.keep (hb3.cell (i := 2) rfl)
  have H0 := Ext.refl wA
  have HR := Lib.hid (h.ext hE0)
  have HRN := Lib.hid (k.ext hE0)
  have HIU := Lib.hid (hu.ext hE0)
  have HIV := Lib.hid (hv.ext hE0)
  have hxL := Ext.alloc wA (.cells #[.slice au u.length cu, .slice av v.length cv] 23)
  have HLG := Lib.hid (by have := Long_c _ _ _ m [u, v] _ (HR.out.ext hxL) (rows_new wA [.slice au u.length cu, .slice av v.length cv] [u, v] (AllInts.cons HIU.out (AllInts.cons HIV.out (AllInts.nil _))) (by simp)); rw [z3] at this; exact this)
  have HLN := Lib.hid (fun W (hW : Ext wA W) => Long_c _ _ _ n [] W (HRN.out.ext hW) (Rows.nil W))
  have HW := Lib.hid (show wA = ((w.alloc (.cells #[.int .i64 m.s, .slice aa m.a.length ca, .slice ae m.e.length ce] 25)).alloc (.cells #[.int .i64 n.s, .slice ba n.a.length da, .slice be n.e.length de] 25)).alloc (.cells #[.slice ax x.length cx, .slice au u.length cu, .slice av v.length cv] 58) by rw [hwA, hwA2, hwA1])
  clear hwA hwA2 hwA1 z1 z2 z3 x1_ x2_ x3_ hb1 hb2 hb3 h k hx hu hv
  generalize longM m [u, v] = b1 at *
  generalize longM n [] = b2 at *
  cases b1
  · cases b2
    · go_enter Try.func16, Try.ntmps16
      go_wp2_with fail
      rw [← HW.out]
      refine HLG.out.mono ?_; rintro e w2 ⟨rfl, hx2⟩
      replace hx2 := hxL.trans hx2
      clear HLG
      go_wp2_with fail
      refine (HLN.out w2 hx2).mono ?_; rintro e w3 ⟨rfl, hx3⟩
      have hX3 := hx2.trans hx3
      go_wp2_with fail
      have HEL := Lib.hid (fun h => either_law (m := m) (n := n) h u v)
      refine (Either_c _ _ _ _ m n w3 (HR.out.ext hX3) (HRN.out.ext hX3)).mono ?_; intro e w4 hr4
      generalize eitherM m n = CM at *
      generalize eitherK m n = ck at *
      obtain ⟨a4, c4, b4, d4, rfl, hM4, hx4⟩ := hr4.open5
      clear hr4
      have hX4 := hX3.trans hx4
      obtain ⟨w5, hw5⟩ : ∃ W, W = w4.alloc (.cells #[.int .i64 CM.s, .slice a4 CM.a.length c4, .slice b4 CM.e.length d4] 25) := ⟨_, rfl⟩
      have hY5 : Ext w4 w5 := by rw [hw5]; exact Ext.alloc _ _
      have p0 : ∀ W, Ext w5 W → W.cell? ⟨w4.heap.size, 0, none⟩ = some (.int .i64 CM.s) := by rw [hw5]; exact kept_alloc w4 _ _ rfl
      have p1 : ∀ W, Ext w5 W → W.cell? ⟨w4.heap.size, 1, none⟩ = some (.slice a4 CM.a.length c4) := by rw [hw5]; exact kept_alloc w4 _ _ rfl
      have p2 : ∀ W, Ext w5 W → W.cell? ⟨w4.heap.size, 2, none⟩ = some (.slice b4 CM.e.length d4) := by rw [hw5]; exact kept_alloc w4 _ _ rfl
      have HM5 := Lib.hid (hM4.ext hY5)
      have hX5 := hX4.trans hY5
      have H55 : Ext w5 w5 := Ext.refl _
      have HW5 := Lib.hid hw5; clear hw5 hM4
      by_cases hck : ck = 0
      · subst hck
        obtain ⟨e1, e2, e3⟩ := HEL.out rfl
        have HRM := Lib.hid (fun W (hW : Ext wA W) => Relates_c _ _ _ _ m u v W (HR.out.ext hW) (HIU.out.ext hW) (HIV.out.ext hW))
        have HRX := Lib.hid (fun W (hW : Ext wA W) => Relates_c _ _ _ _ n u v W (HRN.out.ext hW) (HIU.out.ext hW) (HIV.out.ext hW))
        have HRC := Lib.hid (fun W (hW : Ext wA W) (hW2 : Ext w5 W) => Relates_c _ _ _ _ CM u v W (HM5.out.ext hW2) (HIU.out.ext hW) (HIV.out.ext hW))
        rw [e1] at HRX
        rw [e2] at HRC
        clear e1 e2 HEL
        have HK3 := Lib.hid e3; clear e3
        generalize checkK m [u, v] = ik at *
        generalize relatesB m u v = r1 at *
        generalize relatesB n u v = r2 at *
        generalize relatesB CM u v = r3 at *
        have hik : (ik == ik) = true := by simp
        go_upto_region 6 with fail
        rw [← HW5.out]
        go_wp2_with fail
        refine (HRM.out w5 hX5).mono ?_; rintro e w6 ⟨rfl, hx6⟩
        have hX6 := hX5.trans hx6
        go_wp2_with fail
        refine (HRX.out w6 hX6).mono ?_; rintro e w7 ⟨rfl, hx7⟩
        have hX7 := hX6.trans hx7
        have hZ7 := hx6.trans hx7
        go_wp2_with fail
        refine (HRC.out w7 hX7 hZ7).mono ?_; rintro e w8 ⟨rfl, hx8⟩
        have hX8 := hX7.trans hx8
        clear HRM HRX HRC
        by_cases h0 : ik = 0
        · subst h0
          have h3 := HK3.out rfl
          clear HK3
          subst h3
          cases r1 <;> cases r2
          all_goals
            go_wp2_with fail
            refine (sane_c _).mono ?_; rintro e wK ⟨rfl, hxK⟩
            go_wp2_with fail
            go_ret
            exact RV.bool rfl (hE0.trans (hX8.trans hxK))

        · have hk : (ik != 0) = true := by simp [h0]
          clear h0 HK3
          go_wp2_with fail
          refine (sane_c _).mono ?_; rintro e wK ⟨rfl, hxK⟩
          go_wp2_with fail
          go_ret
          exact RV.bool rfl (hE0.trans (hX8.trans hxK))

      · have hk : (ck != 0) = true := by simp [hck]
        clear hck HEL
        go_upto_region 4 with fail
        rw [← HW5.out]
        go_wp2_with fail
        refine (sane_c _).mono ?_; rintro e wK ⟨rfl, hxK⟩
        go_wp2_with fail
        go_ret
        exact RV.bool rfl (hE0.trans (hX5.trans hxK))

    · go_enter Try.func16, Try.ntmps16
      go_wp2_with fail
      rw [← HW.out]
      refine HLG.out.mono ?_; rintro e w2 ⟨rfl, hx2⟩
      replace hx2 := hxL.trans hx2
      clear HLG
      go_wp2_with fail
      refine (HLN.out w2 hx2).mono ?_; rintro e w3 ⟨rfl, hx3⟩
      have hX3 := hx2.trans hx3
      go_wp2_with fail
      refine (sane_c _).mono ?_; rintro e wK ⟨rfl, hxK⟩
      go_wp2_with fail
      go_ret
      exact RV.bool rfl (hE0.trans (hX3.trans hxK))

  · go_enter Try.func16, Try.ntmps16
    go_wp2_with fail
    rw [← HW.out]
    refine HLG.out.mono ?_; rintro e w2 ⟨rfl, hx2⟩
    replace hx2 := hxL.trans hx2
    go_wp2_with fail
    refine (sane_c _).mono ?_; rintro e wK ⟨rfl, hxK⟩
    go_wp2_with fail
    go_ret
    exact RV.bool rfl (hE0.trans (hx2.trans hxK))

end Go.Proofs.Ytodhmkbkcjpnkaa
