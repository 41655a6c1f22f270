/- Machines: Either of the program. -/
import Derived.Test.YtodhmkbkcjpnkaaEithP
namespace Go.Proofs.Ytodhmkbkcjpnkaa
open Go.RowKit Go.Shelf
set_option linter.unusedVariables false
theorem Blk.keptN {w w' : World} {g : Nat} {ty : TypeId} {vs : List Value} {v : Value} (h : Blk w g ty vs) (hr : v.ownBlock ≠ some g) (hg : w.grownBy w' v.ownBlock) : Blk w' g ty vs :=
  (hg.block g h.lt (fun e => hr e.symm)).trans h
set_option maxHeartbeats 8000000 in
set_option maxRecDepth 100000 in
theorem Either_c (av ev bv fv : Value) (m n : Mac) (w : World) (h : MacR w av ev m) (k : MacR w bv fv n) : Calls Try.prog 55 #[.agg #[.int .i64 m.s, av, ev], .agg #[.int .i64 n.s, bv, fv]] w (RMac2 (eitherM m n) (eitherK m n) w) := by
  obtain ⟨w1_, hw1_⟩ : ∃ W, W = w.alloc (.cells #[.int .i64 m.s, av, ev] 25) := ⟨_, rfl⟩
  obtain ⟨w2_, hw2_⟩ : ∃ W, W = w1_.alloc (.cells #[.int .i64 n.s, bv, fv] 25) := ⟨_, rfl⟩
  obtain ⟨wR, hwR⟩ : ∃ W, W = w2_.alloc (.cells #[.int .i64 0, .slice none 0 0, .slice none 0 0] 25) := ⟨_, rfl⟩
  have hz1_ : w1_.heap.size = w.heap.size + 1 := by rw [hw1_]; simp
  have hz2_ : w2_.heap.size = w.heap.size + 2 := by rw [hw2_]; simp [hz1_]
  have x1_ : Ext w w1_ := by rw [hw1_]; exact Ext.alloc _ _
  have x2_ : Ext w1_ w2_ := by rw [hw2_]; exact Ext.alloc _ _
  have x3_ : Ext w2_ wR := by rw [hwR]; exact Ext.alloc _ _
  have hER : Ext w wR := x1_.trans (x2_.trans x3_)
  have kk : ∀ i v, #[Value.int .i64 m.s, av, ev][i]? = some v → ∀ W, Ext wR W → W.cell? ⟨w.heap.size, i, none⟩ = some v := fun i v h W hW => kept_alloc w _ _ h W (by rw [← hw1_]; exact x2_.trans (x3_.trans hW))
  have ll : ∀ i v, #[Value.int .i64 n.s, bv, fv][i]? = some v → ∀ W, Ext wR W → W.cell? ⟨w.heap.size + 1, i, none⟩ = some v := fun i v h W hW => by
    have := kept_alloc w1_ _ _ h W (by rw [← hw2_]; exact x3_.trans hW)
    rwa [hz1_] at this
  have k0 := kk 0 _ rfl
  have k1 := kk 1 _ rfl
  have k2 := kk 2 _ rfl
  have l0 := ll 0 _ rfl
  have l1 := ll 1 _ rfl
  have l2 := ll 2 _ rfl
  have HBX : Hid (Blk wR (w.heap.size + 2) 25 [.int .i64 0, .slice none 0 0, .slice none 0 0]) := Lib.hid (by rw [hwR, ← hz2_]; exact Blk.alloc w2_ _ _)
  have H0 : Ext wR wR := Ext.refl _
  have HRM := Lib.hid (h.ext hER)
  have HRN := Lib.hid (k.ext hER)
  obtain ⟨aa, ca, rfl, hla, hma, HA⟩ := (h.ext hER).a.open_
  obtain ⟨ae, ce, rfl, hle, hme, HE⟩ := (h.ext hER).e.open_
  obtain ⟨ba, da, rfl, hlb, hmb, HB⟩ := (k.ext hER).a.open_
  obtain ⟨be, de, rfl, hlf, hmf, HF⟩ := (k.ext hER).e.open_
  have HW := Lib.hid (show wR = ((w.alloc (.cells #[.int .i64 m.s, .slice aa m.a.length ca, .slice ae m.e.length ce] 25)).alloc (.cells #[.int .i64 n.s, .slice ba n.a.length da, .slice be n.e.length de] 25)).alloc (.cells #[.int .i64 0, .slice none 0 0, .slice none 0 0] 25) by rw [hwR, hw2_, hw1_])
  clear hwR hw2_ hw1_ hz1_ hz2_ x1_ x2_ x3_ kk ll h k
  have HBO := Lib.hid (both_c _ _ _ _ m n wR HRM.out HRN.out)
  by_cases hv : bothK m n = 0
  · obtain ⟨hMm, hMn⟩ := both_ok hv
    have HM := Lib.hid hMm
    have HN := Lib.hid hMn
    have HK : Hid (eitherM m n = madeM (1 + m.s + n.s) (eithA m n) (eithEs m n) ∧ eitherK m n = madeK (1 + m.s + n.s) (eithA m n)) := Lib.hid ⟨by rw [eitherM, if_pos hv], by rw [eitherK, if_pos hv]⟩
    rw [hv] at HBO
    clear hv hMm hMn
    have HL1 := Lib.hid (fun W (hW : Ext wR W) => endsL_c _ _ m 0 W (HRM.out.ext hW))
    have HL2 := Lib.hid (fun W (hW : Ext wR W) => endsL_c _ _ n 0 W (HRN.out.ext hW))
    cases hb1 : hasB m.e 0
    · cases hb2 : hasB n.e 0
      · have HZ : Hid (eith0 m n = []) := Lib.hid (by simp [eith0, hb1, hb2])
        rw [hb1] at HL1
        rw [hb2] at HL2
        clear hb1 hb2
        go_enter Try.func55, Try.ntmps55
        go_wp2_with fail
        rw [← HW.out]
        refine HBO.out.mono ?_; rintro e w1 ⟨rfl, hE1⟩
        go_wp2_with fail
        refine (HL1.out w1 hE1).mono ?_; rintro e w2 ⟨rfl, hx2⟩
        have hE2 := hE1.trans hx2
        go_wp2_with fail
        refine (HL2.out w2 (hE1.trans hx2)).mono ?_; rintro e w3 ⟨rfl, hx3⟩
        have hX3 := hx2.trans hx3
        have HO8 : Hid (OInts 3 w3 w1.heap.size (.slice none 0 0) (eith0 m n)) := Lib.hid (by rw [HZ.out]; exact OInts.nil _ _ _)
        go_upto_region 8 with fail
        have hszw : w1.heap.size ≤ w3.heap.size := hX3.size
        obtain ⟨gL, hgL⟩ : ∃ g, w3.heap.size = g := ⟨_, rfl⟩
        have hEI0 : EI w1 (w3.alloc (.cells #[.int .i64 m.s, .slice aa m.a.length ca, .slice ae m.e.length ce, .int .i64 n.s, .slice ba n.a.length da, .slice be n.e.length de] 25)) gL [.int .i64 m.s, .slice aa m.a.length ca, .slice ae m.e.length ce, .int .i64 n.s, .slice ba n.a.length da, .slice be n.e.length de] gL [.int .i64 m.s, .slice aa m.a.length ca, .slice ae m.e.length ce, .int .i64 n.s, .slice ba n.a.length da, .slice be n.e.length de] (.slice none 0 0) (.slice none 0 0) [] (eith0 m n) := by
          have hb := Blk.alloc w3 #[.int .i64 m.s, .slice aa m.a.length ca, .slice ae m.e.length ce, .int .i64 n.s, .slice ba n.a.length da, .slice be n.e.length de] 25
          rw [hgL] at hb
          exact ⟨hX3.trans (Ext.alloc _ _), hb, hb, World.ownsRow_nil _ _ _ _, HO8.out.ext (Ext.alloc _ _)⟩
        have HEI0 := Lib.hid hEI0
        clear hEI0
        have hEr3 : Ext wR w3 := hE1.trans hX3
        go_wp2_with fail
        try rw [hgL]
        go_loopg [37, 7, 8, 9] 2 (fun z i v7 v8 v9 wr => ∃ (j : Nat) (t7 t8 : Value), j ≤ 2 ∧ 2 ≤ j + z ∧ i = .int .i64 j ∧ t7 = v7 ∧ t8 = v8 ∧ v9 = .int .i64 (frN m n j) ∧ EI w1 wr gL [.int .i64 m.s, .slice aa m.a.length ca, .slice ae m.e.length ce, .int .i64 n.s, .slice ba n.a.length da, .slice be n.e.length de] gL [.int .i64 m.s, .slice aa m.a.length ca, .slice ae m.e.length ce, .int .i64 n.s, .slice ba n.a.length da, .slice be n.e.length de] t7 t8 (eaN m n j) (eeN m n j))
        case atStart => exact ⟨0, _, _, by omega, by omega, rfl, rfl, rfl, rfl, HEI0.out⟩
        case round =>
          clear HEI0 HO8 hEr3 k0 k1 k2 l0 l1 l2
          obtain ⟨j, t7, t8, hj, hjz, rfl, rfl, rfl, rfl, hEI⟩ := hrel
          obtain ⟨g1, rfl⟩ : ∃ g : Nat, g = gk := ⟨_, rfl⟩
          have hEr : Ext wR wr := hE1.trans hEI.ext
          obtain ⟨a7, c7, rfl⟩ := row_open hEI.arcs
          obtain ⟨a8, c8, rfl⟩ := row_open hEI.all
          by_cases hj2 : j < 2
          · have hj2I : (j : Int) < 2 := by omega
            obtain ⟨x, xv, yv, fr, hMx, hOx, u0, u1, u2, hf0, hf1, hA1, hE2, hfr1, hfr2, hAl, hEl⟩ := eith_step HM.out HN.out HRM.out HRN.out hj2
            have HMX := Lib.hid hMx
            have HOX := Lib.hid hOx
            have hxa60 := hOx.a
            have hxs1 := hOx.s1
            have hxs2 := hOx.s2
            have hxe := end_bd hOx
            obtain ⟨xa, xc, rfl, hlxa, hmxa, HXA⟩ := hMx.a.open_
            obtain ⟨xe, yc, rfl, hlxe, hmxe, HXE⟩ := hMx.e.open_
            have q0 := hEI.lit.cell (i := j * 3) u0
            have q1 := hEI.lit.cell (i := j * 3 + 1) u1
            have q2 := hEI.lit.cell (i := j * 3 + 2) u2
            have HFR := Lib.hid hf1
            have HAN := Lib.hid hA1
            have HEN := Lib.hid hE2
            have HEI := Lib.hid hEI
            clear hMx hOx u0 u1 u2 hEI hf1 hA1 hE2
            rw [hf0] at *
            clear hf0
            generalize eaN m n j = LA at *
            generalize eeN m n j = LE at *
            obtain ⟨wB, hwB⟩ : ∃ W, W = wr.alloc (.cells #[.int .i64 x.s, .slice xa x.a.length xc, .slice xe x.e.length yc] 25) := ⟨_, rfl⟩
            have ewB : Ext wr wB := by rw [hwB]; exact Ext.alloc _ _
            have HEB : Hid (EI w1 wB gL [.int .i64 m.s, .slice aa m.a.length ca, .slice ae m.e.length ce, .int .i64 n.s, .slice ba n.a.length da, .slice be n.e.length de] wr.heap.size [.int .i64 x.s, .slice xa x.a.length xc, .slice xe x.e.length yc] (.slice a7 LA.length c7) (.slice a8 LE.length c8) LA LE) := Lib.hid (by
              have h := HEI.out.later ewB
              exact ⟨h.ext, h.lit, by rw [hwB]; exact Blk.alloc wr _ _, h.arcs, h.all⟩)
            have HwB := Lib.hid hwB; clear hwB
            obtain ⟨gB, hgB⟩ : ∃ g, wr.heap.size = g := ⟨_, rfl⟩
            rw [hgB] at HEB
            go_upto_region 12 with fail
            rw [← HwB.out]
            have p1 := HEB.out.box.cell (i := 1) rfl
            clear q0 q1 q2 HEI
            go_wp2_with fail
            clear p1
            go_loopg [44, 7] x.a.length (fun z i v wr => ∃ (k : Nat) (t7 : Value), k ≤ x.a.length ∧ x.a.length ≤ k + z ∧ i = .int .i64 k ∧ t7 = v ∧ EI w1 wr gL [.int .i64 m.s, .slice aa m.a.length ca, .slice ae m.e.length ce, .int .i64 n.s, .slice ba n.a.length da, .slice be n.e.length de] gB [.int .i64 x.s, .slice xa x.a.length xc, .slice xe x.e.length yc] t7 (.slice a8 LE.length c8) (LA ++ eithX fr (x.a.take k)) LE)
            case atStart => exact ⟨0, _, by omega, by omega, rfl, rfl, by rw [List.take_zero]; have := HEB.out; simpa [eithX] using this⟩
            case round =>
              clear HEB hEr HwB
              obtain ⟨k, t7, hk, hkz, rfl, rfl, hEI⟩ := hrel
              have hEr : Ext wR wr := hE1.trans hEI.ext
              obtain ⟨g2, rfl⟩ : ∃ g : Nat, g = gk := ⟨_, rfl⟩
              obtain ⟨a9, c9, rfl⟩ := row_open hEI.arcs
              by_cases hlk : k < x.a.length
              · obtain ⟨b9, o9, rfl, hc0, hc1, hc2, hc3⟩ := HXA.out k hlk
                replace hc0 := hEr.keep hc0
                replace hc1 := hEr.keep hc1
                replace hc2 := hEr.keep hc2
                replace hc3 := hEr.keep hc3
                have hst := HOX.out.arc hlk
                have HFN : Hid (eithX fr (x.a.take (k + 1)) = eithX fr (x.a.take k) ++ eith1 fr (arcA x.a k)) := Lib.hid (flat_next hlk ⟨0, 0, 0, 0⟩ (eith1 fr))
                generalize arcA x.a k = y at *
                obtain ⟨yf, yt, yi, yo⟩ := y
                simp only at hc0 hc1 hc2 hc3 hst
                have hxl := eithX_len fr (x.a.take k)
                have hxl2 : (x.a.take k).length ≤ 60 := by rw [List.length_take]; omega
                have hlen : (LA ++ eithX fr (x.a.take k)).length ≤ 1000 := by rw [List.length_append]; omega
                have HFL : Hid (LA ++ eithX fr (x.a.take (k + 1)) = (LA ++ eithX fr (x.a.take k)) ++ eith1 fr ⟨yf, yt, yi, yo⟩) := Lib.hid (by rw [HFN.out, List.append_assoc])
                clear HFN hxl hxl2
                generalize LA ++ eithX fr (x.a.take k) = LK at *
                have HEI := Lib.hid hEI; clear hEI
                obtain ⟨wX, hwX⟩ : ∃ wB, wB = wr.alloc (.cells #[.int .i64 yf, .int .i64 yt, .int .i64 yi, .int .i64 yo] 50) := ⟨_, rfl⟩
                have ewX : Ext wr wX := by rw [hwX]; exact Ext.alloc _ _
                have y0 : ∀ W, Ext wX W → W.cell? ⟨wr.heap.size, 0, none⟩ = some (.int .i64 yf) := by rw [hwX]; exact kept_alloc wr _ _ rfl
                have y1 : ∀ W, Ext wX W → W.cell? ⟨wr.heap.size, 1, none⟩ = some (.int .i64 yt) := by rw [hwX]; exact kept_alloc wr _ _ rfl
                have y2 : ∀ W, Ext wX W → W.cell? ⟨wr.heap.size, 2, none⟩ = some (.int .i64 yi) := by rw [hwX]; exact kept_alloc wr _ _ rfl
                have y3 : ∀ W, Ext wX W → W.cell? ⟨wr.heap.size, 3, none⟩ = some (.int .i64 yo) := by rw [hwX]; exact kept_alloc wr _ _ rfl
                have HwX := Lib.hid hwX; clear hwX
                obtain ⟨wY, hwY⟩ : ∃ W, W = wX.alloc (.cells #[.int .i64 (yf + fr), .int .i64 (yt + fr), .int .i64 yi, .int .i64 yo] 50) := ⟨_, rfl⟩
                have ewY : Ext wX wY := by rw [hwY]; exact Ext.alloc _ _
                have hEY := HEI.out.later (ewX.trans ewY)
                have hbX : Blk wX wr.heap.size 50 [.int .i64 yf, .int .i64 yt, .int .i64 yi, .int .i64 yo] := by rw [HwX.out]; exact Blk.alloc wr _ _
                have hszX : wX.heap.size = wr.heap.size + 1 := by rw [HwX.out]; simp
                have hbY : Blk wY wX.heap.size 50 [.int .i64 (yf + fr), .int .i64 (yt + fr), .int .i64 yi, .int .i64 yo] := by rw [hwY]; exact Blk.alloc wX _ _
                have hnX : (Value.slice a9 LK.length c9).ownBlock ≠ some wr.heap.size := fun e => by
                  obtain ⟨cur, h1, _⟩ := ownBlock_cells HEI.out.arcs _ e
                  have := (Array.getElem?_eq_some_iff.1 h1).1
                  omega
                have hnY : (Value.slice a9 LK.length c9).ownBlock ≠ some wX.heap.size := fun e => by
                  obtain ⟨cur, h1, _⟩ := ownBlock_cells HEI.out.arcs _ e
                  have := (Array.getElem?_eq_some_iff.1 h1).1
                  omega
                have HwY := Lib.hid hwY; clear hwY
                have HEY := Lib.hid hEY; clear hEY
                have hszr : w1.heap.size ≤ wr.heap.size := HEI.out.ext.size
                clear HEI
                have HBX' := Lib.hid (hbX.ext ewY)
                have HBY := Lib.hid hbY
                have HSX := Lib.hid hszX
                have hszrY : w1.heap.size ≤ wX.heap.size := by omega
                clear hbX hbY hszX
                have H66 : Ext wX wX := Ext.refl _
                have hw1 : IntKind.i64.wrap (yf + fr) = yf + fr := IntWalk.i64_in _ (by omega)
                have hw2 : IntKind.i64.wrap (yt + fr) = yt + fr := IntWalk.i64_in _ (by omega)
                go_upto_region 15 with fail
                rw [← HwX.out]
                clear hc0 hc1 hc2 hc3
                go_upto_region 16 with fail
                rw [← HwY.out]
                have y0' := HBY.out.cell (i := 0) rfl
                have y1' := HBY.out.cell (i := 1) rfl
                have y2' := HBY.out.cell (i := 2) rfl
                have y3' := HBY.out.cell (i := 3) rfl
                clear y0 y1 y2 y3
                have hszY : w1.heap.size ≤ wY.heap.size := HEY.out.ext.size
                go_upto_region 17 with (at_builtin; refine wpList_appendArc elArc rfl _ _ rfl rfl rfl HEY.out.arcs rfl hszY (by omega) ?_; intro v6 w6 ho6 hb6 hg6 hq6)
                have HE6 := Lib.hid (HEY.out.pushA ho6 hb6 hg6)
                have hn6 := keep_ne hnY HBY.out.lt hq6
                have HB6X := Lib.hid (Blk.keptN HBX'.out hnX hg6)
                have HB6Y := Lib.hid (Blk.keptN HBY.out hnY hg6)
                clear y0' y1' y2' y3' HEY ho6 hb6 hg6 hq6 hnX hnY HBY HBX'
                have x0' := HB6X.out.cell (i := 0) rfl
                have hlY : (LK ++ [(⟨yf + fr, yt + fr, yi, yo⟩ : Arc)]).length ≤ 1001 := by rw [List.length_append]; simp; omega
                by_cases hy0 : yf = 0
                · have hyd : (yf == 0) = true := by simp [hy0]
                  have z0 := HB6Y.out.cell (i := 0) rfl
                  have f0 := HB6Y.out.frozen 0
                  have HSL : Hid (eith1 fr ⟨yf, yt, yi, yo⟩ = [⟨yf + fr, yt + fr, yi, yo⟩, ⟨0, yt + fr, yi, yo⟩]) := Lib.hid (by rw [eith1, if_pos hy0]; rfl)
                  have hE7 := HE6.out.set HB6Y.out hszrY hn6 0 (.int .i64 0)
                  have hB7 : Blk (w6.setCell ⟨wX.heap.size, 0, none⟩ (.int .i64 0)) wX.heap.size 50 [.int .i64 0, .int .i64 (yt + fr), .int .i64 yi, .int .i64 yo] := HB6Y.out.set 0 (.int .i64 0)
                  have HY0 := Lib.hid hy0; clear hy0
                  go_upto_region 19 with fail
                  clear z0 f0 x0'
                  generalize w6.setCell ⟨wX.heap.size, 0, none⟩ (.int .i64 0) = w7 at *
                  have r0 := hB7.cell (i := 0) rfl
                  have r1 := hB7.cell (i := 1) rfl
                  have r2 := hB7.cell (i := 2) rfl
                  have r3 := hB7.cell (i := 3) rfl
                  have HE7 := Lib.hid hE7
                  have hsz7 : w1.heap.size ≤ w7.heap.size := hE7.ext.size
                  clear hB7 hE7
                  go_wp2_with (at_builtin; refine wpList_appendArc elArc rfl _ _ rfl rfl rfl HE7.out.arcs rfl hsz7 (by omega) ?_; intro v8' w8 ho8 hb8 hg8 hq8)
                  go_roundg (g2-1)
                  case measure => omega
                  case rel => exact ⟨k+1, _, by omega, by omega, by go_num, rfl, by rw [HFL.out, HSL.out]; have h := HE7.out.pushA ho8 hb8 hg8; rw [List.append_assoc] at h; exact h⟩
                · have hyd : (yf == 0) = false := by simp [hy0]
                  have HSL : Hid (eith1 fr ⟨yf, yt, yi, yo⟩ = [⟨yf + fr, yt + fr, yi, yo⟩]) := Lib.hid (by rw [eith1, if_neg hy0]; rfl)
                  have HY0 := Lib.hid hy0; clear hy0
                  go_wp2_with fail
                  go_roundg (g2-1)
                  case measure => omega
                  case rel => exact ⟨k+1, _, by omega, by omega, by go_num, rfl, by rw [HFL.out, HSL.out]; exact HE6.out⟩
              · have HTA : Hid (LA ++ eithX fr (x.a.take k) = eaN m n (j + 1)) := Lib.hid (by rw [List.take_of_length_le (by omega), HAN.out])
                rw [HTA.out] at hEI
                rw [HTA.out]
                generalize hLB : eaN m n (j + 1) = LB at *
                have HLB := Lib.hid hLB; clear hLB
                have HEI := Lib.hid hEI; clear hEI
                have p2 := HEI.out.box.cell (i := 2) rfl
                go_wp2_with fail
                clear p2
                go_loopg [77, 8] x.e.length (fun z i v wr => ∃ (k : Nat) (t8 : Value), k ≤ x.e.length ∧ x.e.length ≤ k + z ∧ i = .int .i64 k ∧ t8 = v ∧ EI w1 wr gL [.int .i64 m.s, .slice aa m.a.length ca, .slice ae m.e.length ce, .int .i64 n.s, .slice ba n.a.length da, .slice be n.e.length de] gB [.int .i64 x.s, .slice xa x.a.length xc, .slice xe x.e.length yc] (.slice a9 LB.length c9) t8 LB (LE ++ eithE fr (x.e.take k)))
                case atStart => exact ⟨0, _, by omega, by omega, rfl, rfl, by rw [List.take_zero]; have := HEI.out; simpa [eithE] using this⟩
                case round =>
                  clear HEI hEr hk hkz hlk
                  obtain ⟨k, t8, hk, hkz, rfl, rfl, hEI⟩ := hrel
                  have hEr : Ext wR wr := hE1.trans hEI.ext
                  obtain ⟨a10, c10, rfl⟩ := row_open hEI.all
                  by_cases hlk : k < x.e.length
                  · obtain ⟨b9, o9, rfl, hc0⟩ := HXE.out k hlk
                    replace hc0 := hEr.keep hc0
                    have hy := HOX.out.ends (x.e[k]?.getD 0) (by rw [List.getElem?_eq_getElem hlk]; exact List.getElem_mem hlk)
                    have HFL : Hid (LE ++ eithE fr (x.e.take (k + 1)) = (LE ++ eithE fr (x.e.take k)) ++ [x.e[k]?.getD 0 + fr]) := Lib.hid (by unfold eithE; rw [take_next hlk 0, List.map_append, List.append_assoc]; rfl)
                    have hml : (eithE fr (x.e.take k)).length ≤ 9 := by unfold eithE; rw [List.length_map, List.length_take]; omega
                    generalize x.e[k]?.getD 0 = y at *
                    have hlen : (LE ++ eithE fr (x.e.take k)).length ≤ 1000 := by rw [List.length_append]; omega
                    generalize LE ++ eithE fr (x.e.take k) = LK at *
                    have hw1 : IntKind.i64.wrap (y + fr) = y + fr := IntWalk.i64_in _ (by omega)
                    have HEI := Lib.hid hEI; clear hEI
                    have hszr : w1.heap.size ≤ wr.heap.size := HEI.out.ext.size
                    go_wp2_with (at_builtin; refine wpList_append1G elInts rfl _ _ rfl rfl rfl HEI.out.all rfl rfl hszr (by omega) (by omega) ?_; intro g6 cap6 w6 ho6 hg6 hq6)
                    have hb6 : Below w1.heap.size wr w6 := Below.of_grownBy hg6 HEI.out.all hszr
                    have ho6' : OInts 3 w6 w1.heap.size (.slice (some ⟨g6, 0, none⟩) (LK.length + 1) cap6) (LK ++ [y + fr]) := by unfold OInts; rw [ints_append, List.length_append]; simpa [ints] using ho6
                    go_roundg (gk-1)
                    case measure => omega
                    case rel => exact ⟨k+1, _, by omega, by omega, by go_num, rfl, by rw [HFL.out]; exact HEI.out.pushE ho6' hb6 hg6⟩
                  · have HTE : Hid (LE ++ eithE fr (x.e.take k) = eeN m n (j + 1)) := Lib.hid (by rw [List.take_of_length_le (by omega), HEN.out])
                    rw [HTE.out] at hEI
                    rw [HTE.out]
                    have p0 := hEI.box.cell (i := 0) rfl
                    have hw0 : IntKind.i64.wrap (fr + x.s) = fr + x.s := IntWalk.i64_in _ (by omega)
                    have HEI := Lib.hid hEI; clear hEI
                    generalize hLF : eeN m n (j + 1) = LF at *
                    have HLF := Lib.hid hLF; clear hLF
                    go_wp2_with fail
                    go_roundg (g1-1)
                    case measure => omega
                    case rel => exact ⟨j+1, _, _, by omega, by omega, by go_num, rfl, rfl, by rw [HFR.out], by rw [HLB.out, HLF.out]; exact ⟨HEI.out.ext, HEI.out.lit, HEI.out.lit, HEI.out.arcs, HEI.out.all⟩⟩
          · obtain rfl : j = 2 := by omega
            have hj2I : ¬ ((2 : Nat) : Int) < 2 := by omega
            have hEA : eaN m n 2 = eithA m n := rfl
            have hEE : eeN m n 2 = eithEs m n := rfl
            have hFR : frN m n 2 = 1 + m.s + n.s := rfl
            have hal := eithA_len HM.out HN.out
            rw [hEA, hEE] at hEI
            rw [hEA, hEE, hFR]
            have HMD := Lib.hid (made_c (1 + m.s + n.s) _ _ (eithA m n) (eithEs m n) w1 wr hEI.ext hEI.arcs hEI.all (by omega))
            rw [← HK.out.1, ← HK.out.2] at HMD
            clear hEI hEA hEE hFR
            generalize eithA m n = CA at *
            generalize eithEs m n = CE at *
            generalize eitherM m n = MM at *
            generalize eitherK m n = MK at *
            go_wp2_with fail
            refine HMD.out.mono ?_; rintro e w7 ⟨av7, ev7, rfl, hM7, hx7⟩
            obtain ⟨⟨a1, c1, rfl⟩, a2, c2, rfl⟩ := hM7.open_
            have hX7 := hE1.trans hx7
            have hb := HBX.out.ext hX7
            have z0 := hb.cell (i := 0) rfl
            have z1 := hb.cell (i := 1) rfl
            have z2 := hb.cell (i := 2) rfl
            have f0 := hb.frozen 0
            have f1 := hb.frozen 1
            have f2 := hb.frozen 2
            have HBE := Lib.hid (And.intro (hb.store3 (.int .i64 (MM).s) (.slice a1 MM.a.length c1) (.slice a2 MM.e.length c2)) (And.intro (Ext.store3 (hER.trans hX7) (show w.heap.size ≤ w.heap.size + 2 by omega) (.int .i64 (MM).s) (.slice a1 MM.a.length c1) (.slice a2 MM.e.length c2))
              (hM7.store3 hb (.int .i64 (MM).s) (.slice a1 MM.a.length c1) (.slice a2 MM.e.length c2))))
            clear hb
            go_wp2_with fail
            obtain ⟨hb2, hx2', hM2⟩ := HBE.out
            clear z0 z1 z2 f0 f1 f2 HBE
            have d0 := hb2.cell (i := 0) rfl
            have d1 := hb2.cell (i := 1) rfl
            have d2 := hb2.cell (i := 2) rfl
            generalize (((w7.setCell ⟨w.heap.size + 2, 0, none⟩ (.int .i64 (MM).s)).setCell ⟨w.heap.size + 2, 1, none⟩ (.slice a1 MM.a.length c1)).setCell ⟨w.heap.size + 2, 2, none⟩ (.slice a2 MM.e.length c2)) = w4 at *
            refine bodyPost_ret (v := .tuple #[.agg #[.int .i64 (MM).s, .slice a1 MM.a.length c1, .slice a2 MM.e.length c2], .int .i64 (MK)]) (by simp [results, Try.results55, go_sem, d0, d1, d2]) rfl ?_
            exact RMac2.mk rfl rfl hM2.mac hx2'
      · have HZ : Hid (eith0 m n = [0]) := Lib.hid (by simp [eith0, hb1, hb2])
        rw [hb1] at HL1
        rw [hb2] at HL2
        clear hb1 hb2
        go_enter Try.func55, Try.ntmps55
        go_wp2_with fail
        rw [← HW.out]
        refine HBO.out.mono ?_; rintro e w1 ⟨rfl, hE1⟩
        go_wp2_with fail
        refine (HL1.out w1 hE1).mono ?_; rintro e w2 ⟨rfl, hx2⟩
        have hE2 := hE1.trans hx2
        go_wp2_with fail
        refine (HL2.out w2 (hE1.trans hx2)).mono ?_; rintro e w2b ⟨rfl, hx2b⟩
        have hX2 := hx2.trans hx2b
        have hsz2 : w1.heap.size ≤ w2b.heap.size := hX2.size
        go_upto_region 8 with (at_builtin; refine wpList_appendInt (B := w1.heap.size) elInts rfl _ _ rfl rfl rfl (OInts.nil _ _ _) rfl hsz2 (by simp) ?_; intro v8 w3 ho8 hb8)
        have hX3 : Ext w1 w3 := hX2.upto hb8 (Nat.le_refl _)
        have HO8 : Hid (OInts 3 w3 w1.heap.size v8 (eith0 m n)) := Lib.hid (by rw [HZ.out]; exact ho8)
        clear ho8 hb8
        have hszw : w1.heap.size ≤ w3.heap.size := hX3.size
        obtain ⟨gL, hgL⟩ : ∃ g, w3.heap.size = g := ⟨_, rfl⟩
        have hEI0 : EI w1 (w3.alloc (.cells #[.int .i64 m.s, .slice aa m.a.length ca, .slice ae m.e.length ce, .int .i64 n.s, .slice ba n.a.length da, .slice be n.e.length de] 25)) gL [.int .i64 m.s, .slice aa m.a.length ca, .slice ae m.e.length ce, .int .i64 n.s, .slice ba n.a.length da, .slice be n.e.length de] gL [.int .i64 m.s, .slice aa m.a.length ca, .slice ae m.e.length ce, .int .i64 n.s, .slice ba n.a.length da, .slice be n.e.length de] (.slice none 0 0) v8 [] (eith0 m n) := by
          have hb := Blk.alloc w3 #[.int .i64 m.s, .slice aa m.a.length ca, .slice ae m.e.length ce, .int .i64 n.s, .slice ba n.a.length da, .slice be n.e.length de] 25
          rw [hgL] at hb
          exact ⟨hX3.trans (Ext.alloc _ _), hb, hb, World.ownsRow_nil _ _ _ _, HO8.out.ext (Ext.alloc _ _)⟩
        have HEI0 := Lib.hid hEI0
        clear hEI0
        have hEr3 : Ext wR w3 := hE1.trans hX3
        go_wp2_with fail
        try rw [hgL]
        go_loopg [37, 7, 8, 9] 2 (fun z i v7 v8 v9 wr => ∃ (j : Nat) (t7 t8 : Value), j ≤ 2 ∧ 2 ≤ j + z ∧ i = .int .i64 j ∧ t7 = v7 ∧ t8 = v8 ∧ v9 = .int .i64 (frN m n j) ∧ EI w1 wr gL [.int .i64 m.s, .slice aa m.a.length ca, .slice ae m.e.length ce, .int .i64 n.s, .slice ba n.a.length da, .slice be n.e.length de] gL [.int .i64 m.s, .slice aa m.a.length ca, .slice ae m.e.length ce, .int .i64 n.s, .slice ba n.a.length da, .slice be n.e.length de] t7 t8 (eaN m n j) (eeN m n j))
        case atStart => exact ⟨0, _, _, by omega, by omega, rfl, rfl, rfl, rfl, HEI0.out⟩
        case round =>
          clear HEI0 HO8 hEr3 k0 k1 k2 l0 l1 l2
          obtain ⟨j, t7, t8, hj, hjz, rfl, rfl, rfl, rfl, hEI⟩ := hrel
          obtain ⟨g1, rfl⟩ : ∃ g : Nat, g = gk := ⟨_, rfl⟩
          have hEr : Ext wR wr := hE1.trans hEI.ext
          obtain ⟨a7, c7, rfl⟩ := row_open hEI.arcs
          obtain ⟨a8, c8, rfl⟩ := row_open hEI.all
          by_cases hj2 : j < 2
          · have hj2I : (j : Int) < 2 := by omega
            obtain ⟨x, xv, yv, fr, hMx, hOx, u0, u1, u2, hf0, hf1, hA1, hE2, hfr1, hfr2, hAl, hEl⟩ := eith_step HM.out HN.out HRM.out HRN.out hj2
            have HMX := Lib.hid hMx
            have HOX := Lib.hid hOx
            have hxa60 := hOx.a
            have hxs1 := hOx.s1
            have hxs2 := hOx.s2
            have hxe := end_bd hOx
            obtain ⟨xa, xc, rfl, hlxa, hmxa, HXA⟩ := hMx.a.open_
            obtain ⟨xe, yc, rfl, hlxe, hmxe, HXE⟩ := hMx.e.open_
            have q0 := hEI.lit.cell (i := j * 3) u0
            have q1 := hEI.lit.cell (i := j * 3 + 1) u1
            have q2 := hEI.lit.cell (i := j * 3 + 2) u2
            have HFR := Lib.hid hf1
            have HAN := Lib.hid hA1
            have HEN := Lib.hid hE2
            have HEI := Lib.hid hEI
            clear hMx hOx u0 u1 u2 hEI hf1 hA1 hE2
            rw [hf0] at *
            clear hf0
            generalize eaN m n j = LA at *
            generalize eeN m n j = LE at *
            obtain ⟨wB, hwB⟩ : ∃ W, W = wr.alloc (.cells #[.int .i64 x.s, .slice xa x.a.length xc, .slice xe x.e.length yc] 25) := ⟨_, rfl⟩
            have ewB : Ext wr wB := by rw [hwB]; exact Ext.alloc _ _
            have HEB : Hid (EI w1 wB gL [.int .i64 m.s, .slice aa m.a.length ca, .slice ae m.e.length ce, .int .i64 n.s, .slice ba n.a.length da, .slice be n.e.length de] wr.heap.size [.int .i64 x.s, .slice xa x.a.length xc, .slice xe x.e.length yc] (.slice a7 LA.length c7) (.slice a8 LE.length c8) LA LE) := Lib.hid (by
              have h := HEI.out.later ewB
              exact ⟨h.ext, h.lit, by rw [hwB]; exact Blk.alloc wr _ _, h.arcs, h.all⟩)
            have HwB := Lib.hid hwB; clear hwB
            obtain ⟨gB, hgB⟩ : ∃ g, wr.heap.size = g := ⟨_, rfl⟩
            rw [hgB] at HEB
            go_upto_region 12 with fail
            rw [← HwB.out]
            have p1 := HEB.out.box.cell (i := 1) rfl
            clear q0 q1 q2 HEI
            go_wp2_with fail
            clear p1
            go_loopg [44, 7] x.a.length (fun z i v wr => ∃ (k : Nat) (t7 : Value), k ≤ x.a.length ∧ x.a.length ≤ k + z ∧ i = .int .i64 k ∧ t7 = v ∧ EI w1 wr gL [.int .i64 m.s, .slice aa m.a.length ca, .slice ae m.e.length ce, .int .i64 n.s, .slice ba n.a.length da, .slice be n.e.length de] gB [.int .i64 x.s, .slice xa x.a.length xc, .slice xe x.e.length yc] t7 (.slice a8 LE.length c8) (LA ++ eithX fr (x.a.take k)) LE)
            case atStart => exact ⟨0, _, by omega, by omega, rfl, rfl, by rw [List.take_zero]; have := HEB.out; simpa [eithX] using this⟩
            case round =>
              clear HEB hEr HwB
              obtain ⟨k, t7, hk, hkz, rfl, rfl, hEI⟩ := hrel
              have hEr : Ext wR wr := hE1.trans hEI.ext
              obtain ⟨g2, rfl⟩ : ∃ g : Nat, g = gk := ⟨_, rfl⟩
              obtain ⟨a9, c9, rfl⟩ := row_open hEI.arcs
              by_cases hlk : k < x.a.length
              · obtain ⟨b9, o9, rfl, hc0, hc1, hc2, hc3⟩ := HXA.out k hlk
                replace hc0 := hEr.keep hc0
                replace hc1 := hEr.keep hc1
                replace hc2 := hEr.keep hc2
                replace hc3 := hEr.keep hc3
                have hst := HOX.out.arc hlk
                have HFN : Hid (eithX fr (x.a.take (k + 1)) = eithX fr (x.a.take k) ++ eith1 fr (arcA x.a k)) := Lib.hid (flat_next hlk ⟨0, 0, 0, 0⟩ (eith1 fr))
                generalize arcA x.a k = y at *
                obtain ⟨yf, yt, yi, yo⟩ := y
                simp only at hc0 hc1 hc2 hc3 hst
                have hxl := eithX_len fr (x.a.take k)
                have hxl2 : (x.a.take k).length ≤ 60 := by rw [List.length_take]; omega
                have hlen : (LA ++ eithX fr (x.a.take k)).length ≤ 1000 := by rw [List.length_append]; omega
                have HFL : Hid (LA ++ eithX fr (x.a.take (k + 1)) = (LA ++ eithX fr (x.a.take k)) ++ eith1 fr ⟨yf, yt, yi, yo⟩) := Lib.hid (by rw [HFN.out, List.append_assoc])
                clear HFN hxl hxl2
                generalize LA ++ eithX fr (x.a.take k) = LK at *
                have HEI := Lib.hid hEI; clear hEI
                obtain ⟨wX, hwX⟩ : ∃ wB, wB = wr.alloc (.cells #[.int .i64 yf, .int .i64 yt, .int .i64 yi, .int .i64 yo] 50) := ⟨_, rfl⟩
                have ewX : Ext wr wX := by rw [hwX]; exact Ext.alloc _ _
                have y0 : ∀ W, Ext wX W → W.cell? ⟨wr.heap.size, 0, none⟩ = some (.int .i64 yf) := by rw [hwX]; exact kept_alloc wr _ _ rfl
                have y1 : ∀ W, Ext wX W → W.cell? ⟨wr.heap.size, 1, none⟩ = some (.int .i64 yt) := by rw [hwX]; exact kept_alloc wr _ _ rfl
                have y2 : ∀ W, Ext wX W → W.cell? ⟨wr.heap.size, 2, none⟩ = some (.int .i64 yi) := by rw [hwX]; exact kept_alloc wr _ _ rfl
                have y3 : ∀ W, Ext wX W → W.cell? ⟨wr.heap.size, 3, none⟩ = some (.int .i64 yo) := by rw [hwX]; exact kept_alloc wr _ _ rfl
                have HwX := Lib.hid hwX; clear hwX
                obtain ⟨wY, hwY⟩ : ∃ W, W = wX.alloc (.cells #[.int .i64 (yf + fr), .int .i64 (yt + fr), .int .i64 yi, .int .i64 yo] 50) := ⟨_, rfl⟩
                have ewY : Ext wX wY := by rw [hwY]; exact Ext.alloc _ _
                have hEY := HEI.out.later (ewX.trans ewY)
                have hbX : Blk wX wr.heap.size 50 [.int .i64 yf, .int .i64 yt, .int .i64 yi, .int .i64 yo] := by rw [HwX.out]; exact Blk.alloc wr _ _
                have hszX : wX.heap.size = wr.heap.size + 1 := by rw [HwX.out]; simp
                have hbY : Blk wY wX.heap.size 50 [.int .i64 (yf + fr), .int .i64 (yt + fr), .int .i64 yi, .int .i64 yo] := by rw [hwY]; exact Blk.alloc wX _ _
                have hnX : (Value.slice a9 LK.length c9).ownBlock ≠ some wr.heap.size := fun e => by
                  obtain ⟨cur, h1, _⟩ := ownBlock_cells HEI.out.arcs _ e
                  have := (Array.getElem?_eq_some_iff.1 h1).1
                  omega
                have hnY : (Value.slice a9 LK.length c9).ownBlock ≠ some wX.heap.size := fun e => by
                  obtain ⟨cur, h1, _⟩ := ownBlock_cells HEI.out.arcs _ e
                  have := (Array.getElem?_eq_some_iff.1 h1).1
                  omega
                have HwY := Lib.hid hwY; clear hwY
                have HEY := Lib.hid hEY; clear hEY
                have hszr : w1.heap.size ≤ wr.heap.size := HEI.out.ext.size
                clear HEI
                have HBX' := Lib.hid (hbX.ext ewY)
                have HBY := Lib.hid hbY
                have HSX := Lib.hid hszX
                have hszrY : w1.heap.size ≤ wX.heap.size := by omega
                clear hbX hbY hszX
                have H66 : Ext wX wX := Ext.refl _
                have hw1 : IntKind.i64.wrap (yf + fr) = yf + fr := IntWalk.i64_in _ (by omega)
                have hw2 : IntKind.i64.wrap (yt + fr) = yt + fr := IntWalk.i64_in _ (by omega)
                go_upto_region 15 with fail
                rw [← HwX.out]
                clear hc0 hc1 hc2 hc3
                go_upto_region 16 with fail
                rw [← HwY.out]
                have y0' := HBY.out.cell (i := 0) rfl
                have y1' := HBY.out.cell (i := 1) rfl
                have y2' := HBY.out.cell (i := 2) rfl
                have y3' := HBY.out.cell (i := 3) rfl
                clear y0 y1 y2 y3
                have hszY : w1.heap.size ≤ wY.heap.size := HEY.out.ext.size
                go_upto_region 17 with (at_builtin; refine wpList_appendArc elArc rfl _ _ rfl rfl rfl HEY.out.arcs rfl hszY (by omega) ?_; intro v6 w6 ho6 hb6 hg6 hq6)
                have HE6 := Lib.hid (HEY.out.pushA ho6 hb6 hg6)
                have hn6 := keep_ne hnY HBY.out.lt hq6
                have HB6X := Lib.hid (Blk.keptN HBX'.out hnX hg6)
                have HB6Y := Lib.hid (Blk.keptN HBY.out hnY hg6)
                clear y0' y1' y2' y3' HEY ho6 hb6 hg6 hq6 hnX hnY HBY HBX'
                have x0' := HB6X.out.cell (i := 0) rfl
                have hlY : (LK ++ [(⟨yf + fr, yt + fr, yi, yo⟩ : Arc)]).length ≤ 1001 := by rw [List.length_append]; simp; omega
                by_cases hy0 : yf = 0
                · have hyd : (yf == 0) = true := by simp [hy0]
                  have z0 := HB6Y.out.cell (i := 0) rfl
                  have f0 := HB6Y.out.frozen 0
                  have HSL : Hid (eith1 fr ⟨yf, yt, yi, yo⟩ = [⟨yf + fr, yt + fr, yi, yo⟩, ⟨0, yt + fr, yi, yo⟩]) := Lib.hid (by rw [eith1, if_pos hy0]; rfl)
                  have hE7 := HE6.out.set HB6Y.out hszrY hn6 0 (.int .i64 0)
                  have hB7 : Blk (w6.setCell ⟨wX.heap.size, 0, none⟩ (.int .i64 0)) wX.heap.size 50 [.int .i64 0, .int .i64 (yt + fr), .int .i64 yi, .int .i64 yo] := HB6Y.out.set 0 (.int .i64 0)
                  have HY0 := Lib.hid hy0; clear hy0
                  go_upto_region 19 with fail
                  clear z0 f0 x0'
                  generalize w6.setCell ⟨wX.heap.size, 0, none⟩ (.int .i64 0) = w7 at *
                  have r0 := hB7.cell (i := 0) rfl
                  have r1 := hB7.cell (i := 1) rfl
                  have r2 := hB7.cell (i := 2) rfl
                  have r3 := hB7.cell (i := 3) rfl
                  have HE7 := Lib.hid hE7
                  have hsz7 : w1.heap.size ≤ w7.heap.size := hE7.ext.size
                  clear hB7 hE7
                  go_wp2_with (at_builtin; refine wpList_appendArc elArc rfl _ _ rfl rfl rfl HE7.out.arcs rfl hsz7 (by omega) ?_; intro v8' w8 ho8 hb8 hg8 hq8)
                  go_roundg (g2-1)
                  case measure => omega
                  case rel => exact ⟨k+1, _, by omega, by omega, by go_num, rfl, by rw [HFL.out, HSL.out]; have h := HE7.out.pushA ho8 hb8 hg8; rw [List.append_assoc] at h; exact h⟩
                · have hyd : (yf == 0) = false := by simp [hy0]
                  have HSL : Hid (eith1 fr ⟨yf, yt, yi, yo⟩ = [⟨yf + fr, yt + fr, yi, yo⟩]) := Lib.hid (by rw [eith1, if_neg hy0]; rfl)
                  have HY0 := Lib.hid hy0; clear hy0
                  go_wp2_with fail
                  go_roundg (g2-1)
                  case measure => omega
                  case rel => exact ⟨k+1, _, by omega, by omega, by go_num, rfl, by rw [HFL.out, HSL.out]; exact HE6.out⟩
              · have HTA : Hid (LA ++ eithX fr (x.a.take k) = eaN m n (j + 1)) := Lib.hid (by rw [List.take_of_length_le (by omega), HAN.out])
                rw [HTA.out] at hEI
                rw [HTA.out]
                generalize hLB : eaN m n (j + 1) = LB at *
                have HLB := Lib.hid hLB; clear hLB
                have HEI := Lib.hid hEI; clear hEI
                have p2 := HEI.out.box.cell (i := 2) rfl
                go_wp2_with fail
                clear p2
                go_loopg [77, 8] x.e.length (fun z i v wr => ∃ (k : Nat) (t8 : Value), k ≤ x.e.length ∧ x.e.length ≤ k + z ∧ i = .int .i64 k ∧ t8 = v ∧ EI w1 wr gL [.int .i64 m.s, .slice aa m.a.length ca, .slice ae m.e.length ce, .int .i64 n.s, .slice ba n.a.length da, .slice be n.e.length de] gB [.int .i64 x.s, .slice xa x.a.length xc, .slice xe x.e.length yc] (.slice a9 LB.length c9) t8 LB (LE ++ eithE fr (x.e.take k)))
                case atStart => exact ⟨0, _, by omega, by omega, rfl, rfl, by rw [List.take_zero]; have := HEI.out; simpa [eithE] using this⟩
                case round =>
                  clear HEI hEr hk hkz hlk
                  obtain ⟨k, t8, hk, hkz, rfl, rfl, hEI⟩ := hrel
                  have hEr : Ext wR wr := hE1.trans hEI.ext
                  obtain ⟨a10, c10, rfl⟩ := row_open hEI.all
                  by_cases hlk : k < x.e.length
                  · obtain ⟨b9, o9, rfl, hc0⟩ := HXE.out k hlk
                    replace hc0 := hEr.keep hc0
                    have hy := HOX.out.ends (x.e[k]?.getD 0) (by rw [List.getElem?_eq_getElem hlk]; exact List.getElem_mem hlk)
                    have HFL : Hid (LE ++ eithE fr (x.e.take (k + 1)) = (LE ++ eithE fr (x.e.take k)) ++ [x.e[k]?.getD 0 + fr]) := Lib.hid (by unfold eithE; rw [take_next hlk 0, List.map_append, List.append_assoc]; rfl)
                    have hml : (eithE fr (x.e.take k)).length ≤ 9 := by unfold eithE; rw [List.length_map, List.length_take]; omega
                    generalize x.e[k]?.getD 0 = y at *
                    have hlen : (LE ++ eithE fr (x.e.take k)).length ≤ 1000 := by rw [List.length_append]; omega
                    generalize LE ++ eithE fr (x.e.take k) = LK at *
                    have hw1 : IntKind.i64.wrap (y + fr) = y + fr := IntWalk.i64_in _ (by omega)
                    have HEI := Lib.hid hEI; clear hEI
                    have hszr : w1.heap.size ≤ wr.heap.size := HEI.out.ext.size
                    go_wp2_with (at_builtin; refine wpList_append1G elInts rfl _ _ rfl rfl rfl HEI.out.all rfl rfl hszr (by omega) (by omega) ?_; intro g6 cap6 w6 ho6 hg6 hq6)
                    have hb6 : Below w1.heap.size wr w6 := Below.of_grownBy hg6 HEI.out.all hszr
                    have ho6' : OInts 3 w6 w1.heap.size (.slice (some ⟨g6, 0, none⟩) (LK.length + 1) cap6) (LK ++ [y + fr]) := by unfold OInts; rw [ints_append, List.length_append]; simpa [ints] using ho6
                    go_roundg (gk-1)
                    case measure => omega
                    case rel => exact ⟨k+1, _, by omega, by omega, by go_num, rfl, by rw [HFL.out]; exact HEI.out.pushE ho6' hb6 hg6⟩
                  · have HTE : Hid (LE ++ eithE fr (x.e.take k) = eeN m n (j + 1)) := Lib.hid (by rw [List.take_of_length_le (by omega), HEN.out])
                    rw [HTE.out] at hEI
                    rw [HTE.out]
                    have p0 := hEI.box.cell (i := 0) rfl
                    have hw0 : IntKind.i64.wrap (fr + x.s) = fr + x.s := IntWalk.i64_in _ (by omega)
                    have HEI := Lib.hid hEI; clear hEI
                    generalize hLF : eeN m n (j + 1) = LF at *
                    have HLF := Lib.hid hLF; clear hLF
                    go_wp2_with fail
                    go_roundg (g1-1)
                    case measure => omega
                    case rel => exact ⟨j+1, _, _, by omega, by omega, by go_num, rfl, rfl, by rw [HFR.out], by rw [HLB.out, HLF.out]; exact ⟨HEI.out.ext, HEI.out.lit, HEI.out.lit, HEI.out.arcs, HEI.out.all⟩⟩
          · obtain rfl : j = 2 := by omega
            have hj2I : ¬ ((2 : Nat) : Int) < 2 := by omega
            have hEA : eaN m n 2 = eithA m n := rfl
            have hEE : eeN m n 2 = eithEs m n := rfl
            have hFR : frN m n 2 = 1 + m.s + n.s := rfl
            have hal := eithA_len HM.out HN.out
            rw [hEA, hEE] at hEI
            rw [hEA, hEE, hFR]
            have HMD := Lib.hid (made_c (1 + m.s + n.s) _ _ (eithA m n) (eithEs m n) w1 wr hEI.ext hEI.arcs hEI.all (by omega))
            rw [← HK.out.1, ← HK.out.2] at HMD
            clear hEI hEA hEE hFR
            generalize eithA m n = CA at *
            generalize eithEs m n = CE at *
            generalize eitherM m n = MM at *
            generalize eitherK m n = MK at *
            go_wp2_with fail
            refine HMD.out.mono ?_; rintro e w7 ⟨av7, ev7, rfl, hM7, hx7⟩
            obtain ⟨⟨a1, c1, rfl⟩, a2, c2, rfl⟩ := hM7.open_
            have hX7 := hE1.trans hx7
            have hb := HBX.out.ext hX7
            have z0 := hb.cell (i := 0) rfl
            have z1 := hb.cell (i := 1) rfl
            have z2 := hb.cell (i := 2) rfl
            have f0 := hb.frozen 0
            have f1 := hb.frozen 1
            have f2 := hb.frozen 2
            have HBE := Lib.hid (And.intro (hb.store3 (.int .i64 (MM).s) (.slice a1 MM.a.length c1) (.slice a2 MM.e.length c2)) (And.intro (Ext.store3 (hER.trans hX7) (show w.heap.size ≤ w.heap.size + 2 by omega) (.int .i64 (MM).s) (.slice a1 MM.a.length c1) (.slice a2 MM.e.length c2))
              (hM7.store3 hb (.int .i64 (MM).s) (.slice a1 MM.a.length c1) (.slice a2 MM.e.length c2))))
            clear hb
            go_wp2_with fail
            obtain ⟨hb2, hx2', hM2⟩ := HBE.out
            clear z0 z1 z2 f0 f1 f2 HBE
            have d0 := hb2.cell (i := 0) rfl
            have d1 := hb2.cell (i := 1) rfl
            have d2 := hb2.cell (i := 2) rfl
            generalize (((w7.setCell ⟨w.heap.size + 2, 0, none⟩ (.int .i64 (MM).s)).setCell ⟨w.heap.size + 2, 1, none⟩ (.slice a1 MM.a.length c1)).setCell ⟨w.heap.size + 2, 2, none⟩ (.slice a2 MM.e.length c2)) = w4 at *
            refine bodyPost_ret (v := .tuple #[.agg #[.int .i64 (MM).s, .slice a1 MM.a.length c1, .slice a2 MM.e.length c2], .int .i64 (MK)]) (by simp [results, Try.results55, go_sem, d0, d1, d2]) rfl ?_
            exact RMac2.mk rfl rfl hM2.mac hx2'
    · have HZ : Hid (eith0 m n = [0]) := Lib.hid (by simp [eith0, hb1])
      rw [hb1] at HL1
      clear hb1
      go_enter Try.func55, Try.ntmps55
      go_wp2_with fail
      rw [← HW.out]
      refine HBO.out.mono ?_; rintro e w1 ⟨rfl, hE1⟩
      go_wp2_with fail
      refine (HL1.out w1 hE1).mono ?_; rintro e w2 ⟨rfl, hx2⟩
      have hE2 := hE1.trans hx2
      have hX2 := hx2
      have hsz2 : w1.heap.size ≤ w2.heap.size := hX2.size
      go_upto_region 8 with (at_builtin; refine wpList_appendInt (B := w1.heap.size) elInts rfl _ _ rfl rfl rfl (OInts.nil _ _ _) rfl hsz2 (by simp) ?_; intro v8 w3 ho8 hb8)
      have hX3 : Ext w1 w3 := hX2.upto hb8 (Nat.le_refl _)
      have HO8 : Hid (OInts 3 w3 w1.heap.size v8 (eith0 m n)) := Lib.hid (by rw [HZ.out]; exact ho8)
      clear ho8 hb8
      have hszw : w1.heap.size ≤ w3.heap.size := hX3.size
      obtain ⟨gL, hgL⟩ : ∃ g, w3.heap.size = g := ⟨_, rfl⟩
      have hEI0 : EI w1 (w3.alloc (.cells #[.int .i64 m.s, .slice aa m.a.length ca, .slice ae m.e.length ce, .int .i64 n.s, .slice ba n.a.length da, .slice be n.e.length de] 25)) gL [.int .i64 m.s, .slice aa m.a.length ca, .slice ae m.e.length ce, .int .i64 n.s, .slice ba n.a.length da, .slice be n.e.length de] gL [.int .i64 m.s, .slice aa m.a.length ca, .slice ae m.e.length ce, .int .i64 n.s, .slice ba n.a.length da, .slice be n.e.length de] (.slice none 0 0) v8 [] (eith0 m n) := by
        have hb := Blk.alloc w3 #[.int .i64 m.s, .slice aa m.a.length ca, .slice ae m.e.length ce, .int .i64 n.s, .slice ba n.a.length da, .slice be n.e.length de] 25
        rw [hgL] at hb
        exact ⟨hX3.trans (Ext.alloc _ _), hb, hb, World.ownsRow_nil _ _ _ _, HO8.out.ext (Ext.alloc _ _)⟩
      have HEI0 := Lib.hid hEI0
      clear hEI0
      have hEr3 : Ext wR w3 := hE1.trans hX3
      go_wp2_with fail
      try rw [hgL]
      go_loopg [37, 7, 8, 9] 2 (fun z i v7 v8 v9 wr => ∃ (j : Nat) (t7 t8 : Value), j ≤ 2 ∧ 2 ≤ j + z ∧ i = .int .i64 j ∧ t7 = v7 ∧ t8 = v8 ∧ v9 = .int .i64 (frN m n j) ∧ EI w1 wr gL [.int .i64 m.s, .slice aa m.a.length ca, .slice ae m.e.length ce, .int .i64 n.s, .slice ba n.a.length da, .slice be n.e.length de] gL [.int .i64 m.s, .slice aa m.a.length ca, .slice ae m.e.length ce, .int .i64 n.s, .slice ba n.a.length da, .slice be n.e.length de] t7 t8 (eaN m n j) (eeN m n j))
      case atStart => exact ⟨0, _, _, by omega, by omega, rfl, rfl, rfl, rfl, HEI0.out⟩
      case round =>
        clear HEI0 HO8 hEr3 k0 k1 k2 l0 l1 l2
        obtain ⟨j, t7, t8, hj, hjz, rfl, rfl, rfl, rfl, hEI⟩ := hrel
        obtain ⟨g1, rfl⟩ : ∃ g : Nat, g = gk := ⟨_, rfl⟩
        have hEr : Ext wR wr := hE1.trans hEI.ext
        obtain ⟨a7, c7, rfl⟩ := row_open hEI.arcs
        obtain ⟨a8, c8, rfl⟩ := row_open hEI.all
        by_cases hj2 : j < 2
        · have hj2I : (j : Int) < 2 := by omega
          obtain ⟨x, xv, yv, fr, hMx, hOx, u0, u1, u2, hf0, hf1, hA1, hE2, hfr1, hfr2, hAl, hEl⟩ := eith_step HM.out HN.out HRM.out HRN.out hj2
          have HMX := Lib.hid hMx
          have HOX := Lib.hid hOx
          have hxa60 := hOx.a
          have hxs1 := hOx.s1
          have hxs2 := hOx.s2
          have hxe := end_bd hOx
          obtain ⟨xa, xc, rfl, hlxa, hmxa, HXA⟩ := hMx.a.open_
          obtain ⟨xe, yc, rfl, hlxe, hmxe, HXE⟩ := hMx.e.open_
          have q0 := hEI.lit.cell (i := j * 3) u0
          have q1 := hEI.lit.cell (i := j * 3 + 1) u1
          have q2 := hEI.lit.cell (i := j * 3 + 2) u2
          have HFR := Lib.hid hf1
          have HAN := Lib.hid hA1
          have HEN := Lib.hid hE2
          have HEI := Lib.hid hEI
          clear hMx hOx u0 u1 u2 hEI hf1 hA1 hE2
          rw [hf0] at *
          clear hf0
          generalize eaN m n j = LA at *
          generalize eeN m n j = LE at *
          obtain ⟨wB, hwB⟩ : ∃ W, W = wr.alloc (.cells #[.int .i64 x.s, .slice xa x.a.length xc, .slice xe x.e.length yc] 25) := ⟨_, rfl⟩
          have ewB : Ext wr wB := by rw [hwB]; exact Ext.alloc _ _
          have HEB : Hid (EI w1 wB gL [.int .i64 m.s, .slice aa m.a.length ca, .slice ae m.e.length ce, .int .i64 n.s, .slice ba n.a.length da, .slice be n.e.length de] wr.heap.size [.int .i64 x.s, .slice xa x.a.length xc, .slice xe x.e.length yc] (.slice a7 LA.length c7) (.slice a8 LE.length c8) LA LE) := Lib.hid (by
            have h := HEI.out.later ewB
            exact ⟨h.ext, h.lit, by rw [hwB]; exact Blk.alloc wr _ _, h.arcs, h.all⟩)
          have HwB := Lib.hid hwB; clear hwB
          obtain ⟨gB, hgB⟩ : ∃ g, wr.heap.size = g := ⟨_, rfl⟩
          rw [hgB] at HEB
          go_upto_region 12 with fail
          rw [← HwB.out]
          have p1 := HEB.out.box.cell (i := 1) rfl
          clear q0 q1 q2 HEI
          go_wp2_with fail
          clear p1
          go_loopg [44, 7] x.a.length (fun z i v wr => ∃ (k : Nat) (t7 : Value), k ≤ x.a.length ∧ x.a.length ≤ k + z ∧ i = .int .i64 k ∧ t7 = v ∧ EI w1 wr gL [.int .i64 m.s, .slice aa m.a.length ca, .slice ae m.e.length ce, .int .i64 n.s, .slice ba n.a.length da, .slice be n.e.length de] gB [.int .i64 x.s, .slice xa x.a.length xc, .slice xe x.e.length yc] t7 (.slice a8 LE.length c8) (LA ++ eithX fr (x.a.take k)) LE)
          case atStart => exact ⟨0, _, by omega, by omega, rfl, rfl, by rw [List.take_zero]; have := HEB.out; simpa [eithX] using this⟩
          case round =>
            clear HEB hEr HwB
            obtain ⟨k, t7, hk, hkz, rfl, rfl, hEI⟩ := hrel
            have hEr : Ext wR wr := hE1.trans hEI.ext
            obtain ⟨g2, rfl⟩ : ∃ g : Nat, g = gk := ⟨_, rfl⟩
            obtain ⟨a9, c9, rfl⟩ := row_open hEI.arcs
            by_cases hlk : k < x.a.length
            · obtain ⟨b9, o9, rfl, hc0, hc1, hc2, hc3⟩ := HXA.out k hlk
              replace hc0 := hEr.keep hc0
              replace hc1 := hEr.keep hc1
              replace hc2 := hEr.keep hc2
              replace hc3 := hEr.keep hc3
              have hst := HOX.out.arc hlk
              have HFN : Hid (eithX fr (x.a.take (k + 1)) = eithX fr (x.a.take k) ++ eith1 fr (arcA x.a k)) := Lib.hid (flat_next hlk ⟨0, 0, 0, 0⟩ (eith1 fr))
              generalize arcA x.a k = y at *
              obtain ⟨yf, yt, yi, yo⟩ := y
              simp only at hc0 hc1 hc2 hc3 hst
              have hxl := eithX_len fr (x.a.take k)
              have hxl2 : (x.a.take k).length ≤ 60 := by rw [List.length_take]; omega
              have hlen : (LA ++ eithX fr (x.a.take k)).length ≤ 1000 := by rw [List.length_append]; omega
              have HFL : Hid (LA ++ eithX fr (x.a.take (k + 1)) = (LA ++ eithX fr (x.a.take k)) ++ eith1 fr ⟨yf, yt, yi, yo⟩) := Lib.hid (by rw [HFN.out, List.append_assoc])
              clear HFN hxl hxl2
              generalize LA ++ eithX fr (x.a.take k) = LK at *
              have HEI := Lib.hid hEI; clear hEI
              obtain ⟨wX, hwX⟩ : ∃ wB, wB = wr.alloc (.cells #[.int .i64 yf, .int .i64 yt, .int .i64 yi, .int .i64 yo] 50) := ⟨_, rfl⟩
              have ewX : Ext wr wX := by rw [hwX]; exact Ext.alloc _ _
              have y0 : ∀ W, Ext wX W → W.cell? ⟨wr.heap.size, 0, none⟩ = some (.int .i64 yf) := by rw [hwX]; exact kept_alloc wr _ _ rfl
              have y1 : ∀ W, Ext wX W → W.cell? ⟨wr.heap.size, 1, none⟩ = some (.int .i64 yt) := by rw [hwX]; exact kept_alloc wr _ _ rfl
              have y2 : ∀ W, Ext wX W → W.cell? ⟨wr.heap.size, 2, none⟩ = some (.int .i64 yi) := by rw [hwX]; exact kept_alloc wr _ _ rfl
              have y3 : ∀ W, Ext wX W → W.cell? ⟨wr.heap.size, 3, none⟩ = some (.int .i64 yo) := by rw [hwX]; exact kept_alloc wr _ _ rfl
              have HwX := Lib.hid hwX; clear hwX
              obtain ⟨wY, hwY⟩ : ∃ W, W = wX.alloc (.cells #[.int .i64 (yf + fr), .int .i64 (yt + fr), .int .i64 yi, .int .i64 yo] 50) := ⟨_, rfl⟩
              have ewY : Ext wX wY := by rw [hwY]; exact Ext.alloc _ _
              have hEY := HEI.out.later (ewX.trans ewY)
              have hbX : Blk wX wr.heap.size 50 [.int .i64 yf, .int .i64 yt, .int .i64 yi, .int .i64 yo] := by rw [HwX.out]; exact Blk.alloc wr _ _
              have hszX : wX.heap.size = wr.heap.size + 1 := by rw [HwX.out]; simp
              have hbY : Blk wY wX.heap.size 50 [.int .i64 (yf + fr), .int .i64 (yt + fr), .int .i64 yi, .int .i64 yo] := by rw [hwY]; exact Blk.alloc wX _ _
              have hnX : (Value.slice a9 LK.length c9).ownBlock ≠ some wr.heap.size := fun e => by
                obtain ⟨cur, h1, _⟩ := ownBlock_cells HEI.out.arcs _ e
                have := (Array.getElem?_eq_some_iff.1 h1).1
                omega
              have hnY : (Value.slice a9 LK.length c9).ownBlock ≠ some wX.heap.size := fun e => by
                obtain ⟨cur, h1, _⟩ := ownBlock_cells HEI.out.arcs _ e
                have := (Array.getElem?_eq_some_iff.1 h1).1
                omega
              have HwY := Lib.hid hwY; clear hwY
              have HEY := Lib.hid hEY; clear hEY
              have hszr : w1.heap.size ≤ wr.heap.size := HEI.out.ext.size
              clear HEI
              have HBX' := Lib.hid (hbX.ext ewY)
              have HBY := Lib.hid hbY
              have HSX := Lib.hid hszX
              have hszrY : w1.heap.size ≤ wX.heap.size := by omega
              clear hbX hbY hszX
              have H66 : Ext wX wX := Ext.refl _
              have hw1 : IntKind.i64.wrap (yf + fr) = yf + fr := IntWalk.i64_in _ (by omega)
              have hw2 : IntKind.i64.wrap (yt + fr) = yt + fr := IntWalk.i64_in _ (by omega)
              go_upto_region 15 with fail
              rw [← HwX.out]
              clear hc0 hc1 hc2 hc3
              go_upto_region 16 with fail
              rw [← HwY.out]
              have y0' := HBY.out.cell (i := 0) rfl
              have y1' := HBY.out.cell (i := 1) rfl
              have y2' := HBY.out.cell (i := 2) rfl
              have y3' := HBY.out.cell (i := 3) rfl
              clear y0 y1 y2 y3
              have hszY : w1.heap.size ≤ wY.heap.size := HEY.out.ext.size
              go_upto_region 17 with (at_builtin; refine wpList_appendArc elArc rfl _ _ rfl rfl rfl HEY.out.arcs rfl hszY (by omega) ?_; intro v6 w6 ho6 hb6 hg6 hq6)
              have HE6 := Lib.hid (HEY.out.pushA ho6 hb6 hg6)
              have hn6 := keep_ne hnY HBY.out.lt hq6
              have HB6X := Lib.hid (Blk.keptN HBX'.out hnX hg6)
              have HB6Y := Lib.hid (Blk.keptN HBY.out hnY hg6)
              clear y0' y1' y2' y3' HEY ho6 hb6 hg6 hq6 hnX hnY HBY HBX'
              have x0' := HB6X.out.cell (i := 0) rfl
              have hlY : (LK ++ [(⟨yf + fr, yt + fr, yi, yo⟩ : Arc)]).length ≤ 1001 := by rw [List.length_append]; simp; omega
              by_cases hy0 : yf = 0
              · have hyd : (yf == 0) = true := by simp [hy0]
                have z0 := HB6Y.out.cell (i := 0) rfl
                have f0 := HB6Y.out.frozen 0
                have HSL : Hid (eith1 fr ⟨yf, yt, yi, yo⟩ = [⟨yf + fr, yt + fr, yi, yo⟩, ⟨0, yt + fr, yi, yo⟩]) := Lib.hid (by rw [eith1, if_pos hy0]; rfl)
                have hE7 := HE6.out.set HB6Y.out hszrY hn6 0 (.int .i64 0)
                have hB7 : Blk (w6.setCell ⟨wX.heap.size, 0, none⟩ (.int .i64 0)) wX.heap.size 50 [.int .i64 0, .int .i64 (yt + fr), .int .i64 yi, .int .i64 yo] := HB6Y.out.set 0 (.int .i64 0)
                have HY0 := Lib.hid hy0; clear hy0
                go_upto_region 19 with fail
                clear z0 f0 x0'
                generalize w6.setCell ⟨wX.heap.size, 0, none⟩ (.int .i64 0) = w7 at *
                have r0 := hB7.cell (i := 0) rfl
                have r1 := hB7.cell (i := 1) rfl
                have r2 := hB7.cell (i := 2) rfl
                have r3 := hB7.cell (i := 3) rfl
                have HE7 := Lib.hid hE7
                have hsz7 : w1.heap.size ≤ w7.heap.size := hE7.ext.size
                clear hB7 hE7
                go_wp2_with (at_builtin; refine wpList_appendArc elArc rfl _ _ rfl rfl rfl HE7.out.arcs rfl hsz7 (by omega) ?_; intro v8' w8 ho8 hb8 hg8 hq8)
                go_roundg (g2-1)
                case measure => omega
                case rel => exact ⟨k+1, _, by omega, by omega, by go_num, rfl, by rw [HFL.out, HSL.out]; have h := HE7.out.pushA ho8 hb8 hg8; rw [List.append_assoc] at h; exact h⟩
              · have hyd : (yf == 0) = false := by simp [hy0]
                have HSL : Hid (eith1 fr ⟨yf, yt, yi, yo⟩ = [⟨yf + fr, yt + fr, yi, yo⟩]) := Lib.hid (by rw [eith1, if_neg hy0]; rfl)
                have HY0 := Lib.hid hy0; clear hy0
                go_wp2_with fail
                go_roundg (g2-1)
                case measure => omega
                case rel => exact ⟨k+1, _, by omega, by omega, by go_num, rfl, by rw [HFL.out, HSL.out]; exact HE6.out⟩
            · have HTA : Hid (LA ++ eithX fr (x.a.take k) = eaN m n (j + 1)) := Lib.hid (by rw [List.take_of_length_le (by omega), HAN.out])
              rw [HTA.out] at hEI
              rw [HTA.out]
              generalize hLB : eaN m n (j + 1) = LB at *
              have HLB := Lib.hid hLB; clear hLB
              have HEI := Lib.hid hEI; clear hEI
              have p2 := HEI.out.box.cell (i := 2) rfl
              go_wp2_with fail
              clear p2
              go_loopg [77, 8] x.e.length (fun z i v wr => ∃ (k : Nat) (t8 : Value), k ≤ x.e.length ∧ x.e.length ≤ k + z ∧ i = .int .i64 k ∧ t8 = v ∧ EI w1 wr gL [.int .i64 m.s, .slice aa m.a.length ca, .slice ae m.e.length ce, .int .i64 n.s, .slice ba n.a.length da, .slice be n.e.length de] gB [.int .i64 x.s, .slice xa x.a.length xc, .slice xe x.e.length yc] (.slice a9 LB.length c9) t8 LB (LE ++ eithE fr (x.e.take k)))
              case atStart => exact ⟨0, _, by omega, by omega, rfl, rfl, by rw [List.take_zero]; have := HEI.out; simpa [eithE] using this⟩
              case round =>
                clear HEI hEr hk hkz hlk
                obtain ⟨k, t8, hk, hkz, rfl, rfl, hEI⟩ := hrel
                have hEr : Ext wR wr := hE1.trans hEI.ext
                obtain ⟨a10, c10, rfl⟩ := row_open hEI.all
                by_cases hlk : k < x.e.length
                · obtain ⟨b9, o9, rfl, hc0⟩ := HXE.out k hlk
                  replace hc0 := hEr.keep hc0
                  have hy := HOX.out.ends (x.e[k]?.getD 0) (by rw [List.getElem?_eq_getElem hlk]; exact List.getElem_mem hlk)
                  have HFL : Hid (LE ++ eithE fr (x.e.take (k + 1)) = (LE ++ eithE fr (x.e.take k)) ++ [x.e[k]?.getD 0 + fr]) := Lib.hid (by unfold eithE; rw [take_next hlk 0, List.map_append, List.append_assoc]; rfl)
                  have hml : (eithE fr (x.e.take k)).length ≤ 9 := by unfold eithE; rw [List.length_map, List.length_take]; omega
                  generalize x.e[k]?.getD 0 = y at *
                  have hlen : (LE ++ eithE fr (x.e.take k)).length ≤ 1000 := by rw [List.length_append]; omega
                  generalize LE ++ eithE fr (x.e.take k) = LK at *
                  have hw1 : IntKind.i64.wrap (y + fr) = y + fr := IntWalk.i64_in _ (by omega)
                  have HEI := Lib.hid hEI; clear hEI
                  have hszr : w1.heap.size ≤ wr.heap.size := HEI.out.ext.size
                  go_wp2_with (at_builtin; refine wpList_append1G elInts rfl _ _ rfl rfl rfl HEI.out.all rfl rfl hszr (by omega) (by omega) ?_; intro g6 cap6 w6 ho6 hg6 hq6)
                  have hb6 : Below w1.heap.size wr w6 := Below.of_grownBy hg6 HEI.out.all hszr
                  have ho6' : OInts 3 w6 w1.heap.size (.slice (some ⟨g6, 0, none⟩) (LK.length + 1) cap6) (LK ++ [y + fr]) := by unfold OInts; rw [ints_append, List.length_append]; simpa [ints] using ho6
                  go_roundg (gk-1)
                  case measure => omega
                  case rel => exact ⟨k+1, _, by omega, by omega, by go_num, rfl, by rw [HFL.out]; exact HEI.out.pushE ho6' hb6 hg6⟩
                · have HTE : Hid (LE ++ eithE fr (x.e.take k) = eeN m n (j + 1)) := Lib.hid (by rw [List.take_of_length_le (by omega), HEN.out])
                  rw [HTE.out] at hEI
                  rw [HTE.out]
                  have p0 := hEI.box.cell (i := 0) rfl
                  have hw0 : IntKind.i64.wrap (fr + x.s) = fr + x.s := IntWalk.i64_in _ (by omega)
                  have HEI := Lib.hid hEI; clear hEI
                  generalize hLF : eeN m n (j + 1) = LF at *
                  have HLF := Lib.hid hLF; clear hLF
                  go_wp2_with fail
                  go_roundg (g1-1)
                  case measure => omega
                  case rel => exact ⟨j+1, _, _, by omega, by omega, by go_num, rfl, rfl, by rw [HFR.out], by rw [HLB.out, HLF.out]; exact ⟨HEI.out.ext, HEI.out.lit, HEI.out.lit, HEI.out.arcs, HEI.out.all⟩⟩
        · obtain rfl : j = 2 := by omega
          have hj2I : ¬ ((2 : Nat) : Int) < 2 := by omega
          have hEA : eaN m n 2 = eithA m n := rfl
          have hEE : eeN m n 2 = eithEs m n := rfl
          have hFR : frN m n 2 = 1 + m.s + n.s := rfl
          have hal := eithA_len HM.out HN.out
          rw [hEA, hEE] at hEI
          rw [hEA, hEE, hFR]
          have HMD := Lib.hid (made_c (1 + m.s + n.s) _ _ (eithA m n) (eithEs m n) w1 wr hEI.ext hEI.arcs hEI.all (by omega))
          rw [← HK.out.1, ← HK.out.2] at HMD
          clear hEI hEA hEE hFR
          generalize eithA m n = CA at *
          generalize eithEs m n = CE at *
          generalize eitherM m n = MM at *
          generalize eitherK m n = MK at *
          go_wp2_with fail
          refine HMD.out.mono ?_; rintro e w7 ⟨av7, ev7, rfl, hM7, hx7⟩
          obtain ⟨⟨a1, c1, rfl⟩, a2, c2, rfl⟩ := hM7.open_
          have hX7 := hE1.trans hx7
          have hb := HBX.out.ext hX7
          have z0 := hb.cell (i := 0) rfl
          have z1 := hb.cell (i := 1) rfl
          have z2 := hb.cell (i := 2) rfl
          have f0 := hb.frozen 0
          have f1 := hb.frozen 1
          have f2 := hb.frozen 2
          have HBE := Lib.hid (And.intro (hb.store3 (.int .i64 (MM).s) (.slice a1 MM.a.length c1) (.slice a2 MM.e.length c2)) (And.intro (Ext.store3 (hER.trans hX7) (show w.heap.size ≤ w.heap.size + 2 by omega) (.int .i64 (MM).s) (.slice a1 MM.a.length c1) (.slice a2 MM.e.length c2))
            (hM7.store3 hb (.int .i64 (MM).s) (.slice a1 MM.a.length c1) (.slice a2 MM.e.length c2))))
          clear hb
          go_wp2_with fail
          obtain ⟨hb2, hx2', hM2⟩ := HBE.out
          clear z0 z1 z2 f0 f1 f2 HBE
          have d0 := hb2.cell (i := 0) rfl
          have d1 := hb2.cell (i := 1) rfl
          have d2 := hb2.cell (i := 2) rfl
          generalize (((w7.setCell ⟨w.heap.size + 2, 0, none⟩ (.int .i64 (MM).s)).setCell ⟨w.heap.size + 2, 1, none⟩ (.slice a1 MM.a.length c1)).setCell ⟨w.heap.size + 2, 2, none⟩ (.slice a2 MM.e.length c2)) = w4 at *
          refine bodyPost_ret (v := .tuple #[.agg #[.int .i64 (MM).s, .slice a1 MM.a.length c1, .slice a2 MM.e.length c2], .int .i64 (MK)]) (by simp [results, Try.results55, go_sem, d0, d1, d2]) rfl ?_
          exact RMac2.mk rfl rfl hM2.mac hx2'
  · rw [show eitherM m n = ⟨0, [], []⟩ by rw [eitherM, if_neg hv], show eitherK m n = bothK m n by rw [eitherK, if_neg hv]]
    have hk : (bothK m n != 0) = true := by simp [hv]
    generalize bothK m n = kb at *
    clear hv
    have hxx : ∀ W, Ext wR W → OMac W W.heap.size (.slice none 0 0) (.slice none 0 0) ⟨0, [], []⟩ := fun W _ => OMac.nil _ _
    go_enter Try.func55, Try.ntmps55
    go_wp2_with fail
    rw [← HW.out]
    refine HBO.out.mono ?_; rintro e w1 ⟨rfl, hx1⟩
    have hM0 := hxx w1 hx1

    have hb := HBX.out.ext hx1
    have z0 := hb.cell (i := 0) rfl
    have z1 := hb.cell (i := 1) rfl
    have z2 := hb.cell (i := 2) rfl
    have f0 := hb.frozen 0
    have f1 := hb.frozen 1
    have f2 := hb.frozen 2
    have HBE := Lib.hid (And.intro (hb.store3 (.int .i64 ((⟨0, [], []⟩ : Mac)).s) (.slice none 0 0) (.slice none 0 0)) (And.intro (Ext.store3 (hER.trans hx1) (show w.heap.size ≤ w.heap.size + 2 by omega) (.int .i64 ((⟨0, [], []⟩ : Mac)).s) (.slice none 0 0) (.slice none 0 0))
      (hM0.store3 hb (.int .i64 ((⟨0, [], []⟩ : Mac)).s) (.slice none 0 0) (.slice none 0 0))))
    clear hb
    go_wp2_with fail
    obtain ⟨hb2, hx2', hM2⟩ := HBE.out
    clear z0 z1 z2 f0 f1 f2 HBE
    have d0 := hb2.cell (i := 0) rfl
    have d1 := hb2.cell (i := 1) rfl
    have d2 := hb2.cell (i := 2) rfl
    generalize (((w1.setCell ⟨w.heap.size + 2, 0, none⟩ (.int .i64 ((⟨0, [], []⟩ : Mac)).s)).setCell ⟨w.heap.size + 2, 1, none⟩ (.slice none 0 0)).setCell ⟨w.heap.size + 2, 2, none⟩ (.slice none 0 0)) = w4 at *
    refine bodyPost_ret (v := .tuple #[.agg #[.int .i64 ((⟨0, [], []⟩ : Mac)).s, .slice none 0 0, .slice none 0 0], .int .i64 (kb)]) (by simp [results, Try.results55, go_sem, d0, d1, d2]) rfl ?_

    exact RMac2.mk rfl rfl hM2.mac hx2'
end Go.Proofs.Ytodhmkbkcjpnkaa
