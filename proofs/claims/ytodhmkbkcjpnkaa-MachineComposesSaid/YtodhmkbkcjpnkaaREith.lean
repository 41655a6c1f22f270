/- Machines: Either of the reference. -/
import Derived.Test.YtodhmkbkcjpnkaaREithP
namespace Go.Proofs.Ytodhmkbkcjpnkaa
open Go.RowKit Go.Shelf
set_option linter.unusedVariables false
structure EZ (w1 w : World) (B gO : Nat) (s : Int) (vo ve vl : Value) (A : List Arc) (E L : List Int) : Prop where
  ext : Ext w1 w
  out : Blk w gO 25 [.int .i64 s, vo, ve]
  arcs : OArcs w w1.heap.size vo A
  last : Ints w vl L
  ends : OInts 3 w B ve E
theorem ER.ez {w1 w : World} {gL gB gO : Nat} {s : Int} {us vs : List Value} {vo vl : Value} {A : List Arc} {E : List Int} (h : ER w1 w gL us gB vs gO s vo vl A E) : EZ w1 w w.heap.size gO s vo (.slice none 0 0) vl A [] E := ⟨h.ext, h.out, h.arcs, h.last.ints, OInts.nil _ _ _⟩
theorem ER.first {w1 w w' : World} {gL gB gO : Nat} {s : Int} {us vs : List Value} {vo vl ve : Value} {A : List Arc} {E E0 : List Int} (h : ER w1 w gL us gB vs gO s vo vl A E) (hge : w1.heap.size ≤ gO) (hb : Below w.heap.size w w') (hr : OInts 3 w' w.heap.size ve E0) :
    EZ w1 (w'.setCell ⟨gO, 2, none⟩ ve) w.heap.size gO s vo ve vl A E0 E := by
  have hx : Ext w w' := (Ext.refl w).upto hb (Nat.le_refl _)
  have h' := h.later hx
  have hl : OInts 3 (w'.setCell ⟨gO, 2, none⟩ ve) w1.heap.size vl E := row_setR h'.last h'.out (by decide) 2 ve
  refine ⟨h'.ext.setCell hge _ _, ?_, row_setR h'.arcs h'.out (by decide) 2 ve, hl.ints, row_setR hr h'.out (by decide) 2 ve⟩
  have := h'.out.set 2 ve
  simpa using this
theorem EZ.second {w1 w w' : World} {B gO : Nat} {s : Int} {vo ve ve' vl : Value} {A : List Arc} {E E' L : List Int} (h : EZ w1 w B gO s vo ve vl A E L) (hge : w1.heap.size ≤ gO) (hwB : w1.heap.size ≤ B) (hr : OInts 3 w' B ve' E') (hb : Below B w w') (hg : w.grownBy w' ve.ownBlock) :
    Ext w1 (w'.setCell ⟨gO, 2, none⟩ ve') ∧ Blk (w'.setCell ⟨gO, 2, none⟩ ve') gO 25 [.int .i64 s, vo, ve'] ∧ OMac (w'.setCell ⟨gO, 2, none⟩ ve') w1.heap.size vo ve' ⟨s, A, E'⟩ := by
  have ho := h.out.keptR (by decide) h.ends hg
  refine ⟨(h.ext.upto hb hwB).setCell hge _ _, ?_, row_setR (row_keptR h.arcs (by decide) h.ends hg) ho (by decide) 2 ve', row_low (row_setR hr ho (by decide) 2 ve') hwB⟩
  have := ho.set 2 ve'
  simpa using this
theorem Blk.laid {w w' : World} {gO b : Nat} {us ys : List Value} (hO : Blk w gO 25 us) (hb : Blk w b 50 ys) (hx : Ext w w') (v : Value) : Blk (w'.setCell ⟨gO, 1, none⟩ v) b 50 ys :=
  (hb.ext hx).other (fun e => blk_ne (hO.ext hx) (hb.ext hx) e) 1 v
set_option maxHeartbeats 8000000 in
set_option maxRecDepth 100000 in
theorem rEither_c (av ev bv fv : Value) (m n : Mac) (w : World) (h : MacR w av ev m) (k : MacR w bv fv n) : Calls Try.prog 56 #[.agg #[.int .i64 m.s, av, ev], .agg #[.int .i64 n.s, bv, fv]] w (RMac2 (eitherM m n) (eitherK m n) w) := by
  obtain ⟨w1_, hw1_⟩ : ∃ W, W = w.alloc (.cells #[.int .i64 m.s, av, ev] 25) := ⟨_, rfl⟩
  obtain ⟨w2_, hw2_⟩ : ∃ W, W = w1_.alloc (.cells #[.int .i64 n.s, bv, fv] 25) := ⟨_, rfl⟩
  obtain ⟨wR, hwR⟩ : ∃ W, W = w2_.alloc (.cells #[.int .i64 0, .slice none 0 0, .slice none 0 0] 25) := ⟨_, rfl⟩
  have hz1_ : w1_.heap.size = w.heap.size + 1 := by rw [hw1_]; simp
  have hz2_ : w2_.heap.size = w.heap.size + 2 := by rw [hw2_]; simp [hz1_]
  have x1_ : Ext w w1_ := by rw [hw1_]; exact Ext.alloc _ _
  have x2_ : Ext w1_ w2_ := by rw [hw2_]; exact Ext.alloc _ _
  have x3_ : Ext w2_ wR := by rw [hwR]; exact Ext.alloc _ _
  have hER : Ext w wR := x1_.trans (x2_.trans x3_)
  have kk : ∀ i v, #[Value.int .i64 m.s, av, ev][i]? = some v → ∀ W, Ext wR W → W.cell? ⟨w.heap.size, i, none⟩ = some v := fun i v h W hW => kept_alloc w _ _ h W (by rw [← hw1_]; exact x2_.trans (x3_.trans hW))
  have ll : ∀ i v, #[Value.int .i64 n.s, bv, fv][i]? = some v → ∀ W, Ext wR W → W.cell? ⟨w.heap.size + 1, i, none⟩ = some v := fun i v h W hW => by
    have := kept_alloc w1_ _ _ h W (by rw [← hw2_]; exact x3_.trans hW)
    rwa [hz1_] at this
  have k0 := kk 0 _ rfl
  have k1 := kk 1 _ rfl
  have k2 := kk 2 _ rfl
  have l0 := ll 0 _ rfl
  have l1 := ll 1 _ rfl
  have l2 := ll 2 _ rfl
  have HBX : Hid (Blk wR (w.heap.size + 2) 25 [.int .i64 0, .slice none 0 0, .slice none 0 0]) := Lib.hid (by rw [hwR, ← hz2_]; exact Blk.alloc w2_ _ _)
  have H0 : Ext wR wR := Ext.refl _
  have HRM := Lib.hid (h.ext hER)
  have HRN := Lib.hid (k.ext hER)
  obtain ⟨aa, ca, rfl, hla, hma, HA⟩ := (h.ext hER).a.open_
  obtain ⟨ae, ce, rfl, hle, hme, HE⟩ := (h.ext hER).e.open_
  obtain ⟨ba, da, rfl, hlb, hmb, HB⟩ := (k.ext hER).a.open_
  obtain ⟨be, de, rfl, hlf, hmf, HF⟩ := (k.ext hER).e.open_
  have HW := Lib.hid (show wR = ((w.alloc (.cells #[.int .i64 m.s, .slice aa m.a.length ca, .slice ae m.e.length ce] 25)).alloc (.cells #[.int .i64 n.s, .slice ba n.a.length da, .slice be n.e.length de] 25)).alloc (.cells #[.int .i64 0, .slice none 0 0, .slice none 0 0] 25) by rw [hwR, hw2_, hw1_])
  clear hwR hw2_ hw1_ hz1_ hz2_ x1_ x2_ x3_ kk ll h k
  have HBO := Lib.hid (rtwo_c _ _ _ _ m n wR HRM.out HRN.out)
  by_cases hv : bothK m n = 0
  · obtain ⟨hMm, hMn⟩ := both_ok hv
    have HM := Lib.hid hMm
    have HN := Lib.hid hMn
    have HKD : Hid (eitherM m n = madeM (1 + m.s + n.s) (eithA m n) (eithEs m n) ∧ eitherK m n = madeK (1 + m.s + n.s) (eithA m n)) := Lib.hid ⟨by rw [eitherM, if_pos hv], by rw [eitherK, if_pos hv]⟩
    have hms1 := hMm.s1
    have hms2 := hMm.s2
    have hns1 := hMn.s1
    have hns2 := hMn.s2
    have hw0 : IntKind.i64.wrap (1 + m.s) = 1 + m.s := IntWalk.i64_in _ (by omega)
    have hw00 : IntKind.i64.wrap (1 + m.s + n.s) = 1 + m.s + n.s := IntWalk.i64_in _ (by omega)
    rw [hv] at HBO
    clear hv hMm hMn
    go_enter Try.func56, Try.ntmps56
    go_wp2_with fail
    rw [← HW.out]
    refine HBO.out.mono ?_; rintro e w1 ⟨rfl, hE1⟩
    by_cases h9 : 9 < 1 + m.s + n.s
    · have hd1 : decide (1 + m.s + n.s > 9) = true := by simpa using h9
      have hd2 : decide (9 < 1 + m.s + n.s) = true := by simpa using h9
      have HK : Hid (eitherM m n = ⟨0, [], []⟩ ∧ eitherK m n = 3) := Lib.hid (by
        have h0 : madeK (1 + m.s + n.s) (eithA m n) = 3 := by rw [madeK, if_pos h9]
        exact ⟨by rw [HKD.out.1, madeM, h0, if_neg (by decide)], by rw [HKD.out.2, h0]⟩)
      clear h9
      have HXX := Lib.hid hE1
      have hM0 : OMac w1 wR.heap.size (.slice none 0 0) (.slice none 0 0) ⟨0, [], []⟩ := OMac.nil _ _
      have hb := HBX.out.ext HXX.out
      have z0 := hb.cell (i := 0) rfl
      have z1 := hb.cell (i := 1) rfl
      have z2 := hb.cell (i := 2) rfl
      have f0 := hb.frozen 0
      have f1 := hb.frozen 1
      have f2 := hb.frozen 2
      have HBE := Lib.hid (And.intro (hb.store3 (.int .i64 ((⟨0, [], []⟩ : Mac)).s) (.slice none 0 0) (.slice none 0 0)) (And.intro (Ext.store3 (hER.trans HXX.out) (show w.heap.size ≤ w.heap.size + 2 by omega) (.int .i64 ((⟨0, [], []⟩ : Mac)).s) (.slice none 0 0) (.slice none 0 0))
        (hM0.store3 hb (.int .i64 ((⟨0, [], []⟩ : Mac)).s) (.slice none 0 0) (.slice none 0 0))))
      clear hb
      go_wp2_with fail
      obtain ⟨hb2, hx2', hM2⟩ := HBE.out
      clear z0 z1 z2 f0 f1 f2 HBE
      have d0 := hb2.cell (i := 0) rfl
      have d1 := hb2.cell (i := 1) rfl
      have d2 := hb2.cell (i := 2) rfl
      generalize (((w1.setCell ⟨w.heap.size + 2, 0, none⟩ (.int .i64 ((⟨0, [], []⟩ : Mac)).s)).setCell ⟨w.heap.size + 2, 1, none⟩ (.slice none 0 0)).setCell ⟨w.heap.size + 2, 2, none⟩ (.slice none 0 0)) = w4 at *
      refine bodyPost_ret (v := .tuple #[.agg #[.int .i64 ((⟨0, [], []⟩ : Mac)).s, .slice none 0 0, .slice none 0 0], .int .i64 (3)]) (by simp [results, Try.results56, go_sem, d0, d1, d2]) rfl ?_
      exact RMac2.mk HK.out.1 HK.out.2 hM2.mac hx2'
    · have hd1 : decide (1 + m.s + n.s > 9) = false := by simp; omega
      have hd2 : decide (9 < 1 + m.s + n.s) = false := by simp; omega
      have HK9 : Hid (madeK (1 + m.s + n.s) (eithA m n) = if 60 < (arcsU (eithA m n)).length then 3 else 0) := Lib.hid (by rw [madeK, if_neg h9])
      clear h9
      have hgR : w.heap.size + 2 < wR.heap.size := HBX.out.lt
      obtain ⟨wO, hwO⟩ : ∃ W, W = w1.alloc (.cells #[.int .i64 (1 + m.s + n.s), .slice none 0 0, .slice none 0 0] 25) := ⟨_, rfl⟩
      obtain ⟨wL, hwL⟩ : ∃ W, W = wO.alloc (.cells #[.int .i64 m.s, .slice aa m.a.length ca, .slice ae m.e.length ce, .int .i64 n.s, .slice ba n.a.length da, .slice be n.e.length de] 25) := ⟨_, rfl⟩
      have eO : Ext w1 wO := by rw [hwO]; exact Ext.alloc _ _
      have eL : Ext wO wL := by rw [hwL]; exact Ext.alloc _ _
      have zO : wO.heap.size = w1.heap.size + 1 := by rw [hwO]; simp
      obtain ⟨gO, hgOe⟩ : ∃ g, w1.heap.size = g := ⟨_, rfl⟩
      obtain ⟨gL, hgLe⟩ : ∃ g, wO.heap.size = g := ⟨_, rfl⟩
      have hbO : Blk wO gO 25 [.int .i64 (1 + m.s + n.s), .slice none 0 0, .slice none 0 0] := by rw [hwO, ← hgOe]; exact Blk.alloc w1 _ _
      have hbL : Blk wL gL 25 [.int .i64 m.s, .slice aa m.a.length ca, .slice ae m.e.length ce, .int .i64 n.s, .slice ba n.a.length da, .slice be n.e.length de] := by rw [hwL, ← hgLe]; exact Blk.alloc wO _ _
      have HER0 : Hid (ER w1 wL gL [.int .i64 m.s, .slice aa m.a.length ca, .slice ae m.e.length ce, .int .i64 n.s, .slice ba n.a.length da, .slice be n.e.length de] gL [.int .i64 m.s, .slice aa m.a.length ca, .slice ae m.e.length ce, .int .i64 n.s, .slice ba n.a.length da, .slice be n.e.length de] gO (1 + m.s + n.s) (.slice none 0 0) (.slice none 0 0) [] []) := Lib.hid ⟨eO.trans eL, hbL, hbL, hbO.ext eL, World.ownsRow_nil _ _ _ _, OInts.nil _ _ _⟩
      have hgO : w1.heap.size ≤ gO := by omega
      have hOL : gO ≠ gL := by omega
      have HgL : Hid (gL = gO + 1) := Lib.hid (by omega)
      have HWL := Lib.hid (show wL = (w1.alloc (.cells #[.int .i64 (1 + m.s + n.s), .slice none 0 0, .slice none 0 0] 25)).alloc (.cells #[.int .i64 m.s, .slice aa m.a.length ca, .slice ae m.e.length ce, .int .i64 n.s, .slice ba n.a.length da, .slice be n.e.length de] 25) by rw [hwL, hwO])
      have HgO := Lib.hid hgOe
      have hLsz : gL < wL.heap.size := hbL.lt
      have HWO := Lib.hid hwO
      have HGL := Lib.hid hgLe
      have hXO : Ext wR wO := hE1.trans eO
      have HWL' := Lib.hid hwL
      clear hwO hwL eO eL zO hbO hbL hgLe
      have HX1 := Lib.hid hE1
      go_upto_region 7 with fail
      rw [← HWO.out]
      go_upto_region 8 with fail
      rw [← HWL'.out]
      try rw [HGL.out]
      clear hXO
      clear hgOe
      go_wp2_with fail
      go_loopg [12, 9, 10, 11] 2 (fun z i v9 v10 v11 wr => ∃ (j : Nat) (vo t11 : Value), j ≤ 2 ∧ 2 ≤ j + z ∧ i = .int .i64 j ∧ v9 = .int .i64 (frN m n j) ∧ v10 = .bool (stN m n j) ∧ t11 = v11 ∧ ER w1 wr gL [.int .i64 m.s, .slice aa m.a.length ca, .slice ae m.e.length ce, .int .i64 n.s, .slice ba n.a.length da, .slice be n.e.length de] gL [.int .i64 m.s, .slice aa m.a.length ca, .slice ae m.e.length ce, .int .i64 n.s, .slice ba n.a.length da, .slice be n.e.length de] gO (1 + m.s + n.s) vo t11 (arcsU (eaN m n j)) (elN m n j))
      case atStart => exact ⟨0, _, _, by omega, by omega, rfl, rfl, rfl, rfl, HER0.out⟩
      case round =>
        clear HER0 k0 k1 k2 l0 l1 l2
        obtain ⟨j, vo, t11, hj, hjz, rfl, rfl, rfl, rfl, hER⟩ := hrel
        obtain ⟨g1, rfl⟩ : ∃ g : Nat, g = gk := ⟨_, rfl⟩
        have hEr : Ext wR wr := hE1.trans hER.ext
        have hszL : wr.heap.size = wr.heap.size := rfl
        have hgBr : gL < wr.heap.size := hER.lit.lt
        obtain ⟨a7, c7, rfl⟩ := row_open hER.arcs
        obtain ⟨a8, c8, rfl⟩ := row_open hER.last
        by_cases hj2 : j < 2
        · have hj2I : (j : Int) < 2 := by omega
          obtain ⟨x, xv, yv, fr, hMx, hOx, u0, u1, u2, hf0, hf1, hA1, hE2, hS1, hfr1, hfr2, hAl, hEl⟩ := reith_step HM.out HN.out HRM.out HRN.out hj2
          have HMX := Lib.hid hMx
          have HOX := Lib.hid hOx
          have hxa60 := hOx.a
          have hxs1 := hOx.s1
          have hxs2 := hOx.s2
          have hxe := end_bd hOx
          obtain ⟨xa, xc, rfl, hlxa, hmxa, HXA⟩ := hMx.a.open_
          obtain ⟨xe, yc, rfl, hlxe, hmxe, HXE⟩ := hMx.e.open_
          have q0 := hER.lit.cell (i := j * 3) u0
          have q1 := hER.lit.cell (i := j * 3 + 1) u1
          have q2 := hER.lit.cell (i := j * 3 + 2) u2
          have HFR := Lib.hid hf1
          have HAN := Lib.hid hA1
          have HEN := Lib.hid hE2
          have HSN := Lib.hid hS1
          have HER := Lib.hid hER
          clear hMx hOx u0 u1 u2 hER hf1 hA1 hE2 hS1
          rw [hf0] at *
          clear hf0
          generalize eaN m n j = LA at *
          generalize elN m n j = LE at *
          generalize stN m n j = st at *
          obtain ⟨wB, hwB⟩ : ∃ W, W = wr.alloc (.cells #[.int .i64 x.s, .slice xa x.a.length xc, .slice xe x.e.length yc] 25) := ⟨_, rfl⟩
          have ewB : Ext wr wB := by rw [hwB]; exact Ext.alloc _ _
          have HEB : Hid (ER w1 wB gL [.int .i64 m.s, .slice aa m.a.length ca, .slice ae m.e.length ce, .int .i64 n.s, .slice ba n.a.length da, .slice be n.e.length de] wr.heap.size [.int .i64 x.s, .slice xa x.a.length xc, .slice xe x.e.length yc] gO (1 + m.s + n.s) (.slice a7 (arcsU LA).length c7) (.slice a8 LE.length c8) (arcsU LA) LE) := Lib.hid (by
            have h := HER.out.later ewB
            exact ⟨h.ext, h.lit, by rw [hwB]; exact Blk.alloc wr _ _, h.out, h.arcs, h.last⟩)
          have HwB := Lib.hid hwB; clear hwB
          have hgOr : gO < wr.heap.size := HER.out.out.lt
          obtain ⟨gB, hgB⟩ : ∃ g, wr.heap.size = g := ⟨_, rfl⟩
          rw [hgB] at HEB hgBr hgOr
          have hOB : gO ≠ gB := by omega
          go_upto_region 15 with fail
          rw [← HwB.out]
          clear q0 q1 q2 HER
          go_wp2_with fail
          go_loopg [14] x.a.length (fun z i wr => ∃ (k : Nat) (vo : Value), k ≤ x.a.length ∧ x.a.length ≤ k + z ∧ i = .int .i64 k ∧ ER w1 wr gL [.int .i64 m.s, .slice aa m.a.length ca, .slice ae m.e.length ce, .int .i64 n.s, .slice ba n.a.length da, .slice be n.e.length de] gB [.int .i64 x.s, .slice xa x.a.length xc, .slice xe x.e.length yc] gO (1 + m.s + n.s) vo (.slice a8 LE.length c8) (arcsU (LA ++ eithX fr (x.a.take k))) LE)
          case atStart => exact ⟨0, _, by omega, by omega, rfl, by rw [List.take_zero]; have := HEB.out; simpa [eithX] using this⟩
          case round =>
            clear HEB hEr HwB
            obtain ⟨k, vo, hk, hkz, rfl, hER⟩ := hrel
            have hEr : Ext wR wr := hE1.trans hER.ext
            obtain ⟨g2, rfl⟩ : ∃ g : Nat, g = gk := ⟨_, rfl⟩
            obtain ⟨a9, c9, rfl⟩ := row_open hER.arcs
            have p1 := hER.box.cell (i := 1) rfl
            by_cases hlk : k < x.a.length
            · obtain ⟨b9, o9, rfl, hc0, hc1, hc2, hc3⟩ := HXA.out k hlk
              replace hc0 := hEr.keep hc0
              replace hc1 := hEr.keep hc1
              replace hc2 := hEr.keep hc2
              replace hc3 := hEr.keep hc3
              have hst := HOX.out.arc hlk
              have HFN : Hid (eithX fr (x.a.take (k + 1)) = eithX fr (x.a.take k) ++ eith1 fr (arcA x.a k)) := Lib.hid (flat_next hlk ⟨0, 0, 0, 0⟩ (eith1 fr))
              generalize arcA x.a k = y at *
              obtain ⟨yf, yt, yi, yo⟩ := y
              simp only at hc0 hc1 hc2 hc3 hst
              have hxl := eithX_len fr (x.a.take k)
              have hxl2 : (x.a.take k).length ≤ 60 := by rw [List.length_take]; omega
              have hul := arcsU_len (LA ++ eithX fr (x.a.take k))
              have hlen : (arcsU (LA ++ eithX fr (x.a.take k))).length ≤ 1000 := by rw [List.length_append] at hul; omega
              have HFL : Hid (arcsU (LA ++ eithX fr (x.a.take (k + 1))) = if yf = 0 then putA (putA (arcsU (LA ++ eithX fr (x.a.take k))) ⟨yf + fr, yt + fr, yi, yo⟩) ⟨0, yt + fr, yi, yo⟩ else putA (arcsU (LA ++ eithX fr (x.a.take k))) ⟨yf + fr, yt + fr, yi, yo⟩) := Lib.hid (by
                rw [HFN.out, ← List.append_assoc, eith1]
                split
                · rw [show [mov1 fr ⟨yf, yt, yi, yo⟩, mov0 fr ⟨yf, yt, yi, yo⟩] = [mov1 fr ⟨yf, yt, yi, yo⟩] ++ [mov0 fr ⟨yf, yt, yi, yo⟩] from rfl, ← List.append_assoc, arcsU_snoc, arcsU_snoc]; rfl
                · rw [arcsU_snoc]; rfl)
              clear HFN hxl hxl2 hul
              generalize arcsU (LA ++ eithX fr (x.a.take k)) = LK at *
              have HER := Lib.hid hER; clear hER
              obtain ⟨wX, hwX⟩ : ∃ wB, wB = wr.alloc (.cells #[.int .i64 yf, .int .i64 yt, .int .i64 yi, .int .i64 yo] 50) := ⟨_, rfl⟩
              have ewX : Ext wr wX := by rw [hwX]; exact Ext.alloc _ _
              have y0 : ∀ W, Ext wX W → W.cell? ⟨wr.heap.size, 0, none⟩ = some (.int .i64 yf) := by rw [hwX]; exact kept_alloc wr _ _ rfl
              have y1 : ∀ W, Ext wX W → W.cell? ⟨wr.heap.size, 1, none⟩ = some (.int .i64 yt) := by rw [hwX]; exact kept_alloc wr _ _ rfl
              have y2 : ∀ W, Ext wX W → W.cell? ⟨wr.heap.size, 2, none⟩ = some (.int .i64 yi) := by rw [hwX]; exact kept_alloc wr _ _ rfl
              have y3 : ∀ W, Ext wX W → W.cell? ⟨wr.heap.size, 3, none⟩ = some (.int .i64 yo) := by rw [hwX]; exact kept_alloc wr _ _ rfl
              have HwX := Lib.hid hwX; clear hwX
              have hbX : Blk wX wr.heap.size 50 [.int .i64 yf, .int .i64 yt, .int .i64 yi, .int .i64 yo] := by rw [HwX.out]; exact Blk.alloc wr _ _
              have hnX : (Value.slice a9 LK.length c9).ownBlock ≠ some wr.heap.size := fun e => by
                obtain ⟨cur, h1, _⟩ := ownBlock_cells HER.out.arcs _ e
                have := (Array.getElem?_eq_some_iff.1 h1).1
                omega
              have hszr : w1.heap.size ≤ wr.heap.size := HER.out.ext.size
              have HEX := Lib.hid (HER.out.later ewX)
              obtain ⟨bX, hbXe⟩ : ∃ b, wr.heap.size = b := ⟨_, rfl⟩
              rw [hbXe] at hbX hnX hszr
              have HnX := Lib.hid hnX
              have hw1 : IntKind.i64.wrap (yf + fr) = yf + fr := IntWalk.i64_in _ (by omega)
              have hw2 : IntKind.i64.wrap (yt + fr) = yt + fr := IntWalk.i64_in _ (by omega)
              go_upto_region 19 with fail
              rw [← HwX.out]
              clear hc0 hc1 hc2 hc3 y0 y1 y2 y3 p1 HER
              have z0 := hbX.cell (i := 0) rfl
              have f0 := hbX.frozen 0
              have HE20 := Lib.hid (HEX.out.set hbX hszr hnX 0 (.int .i64 (yf + fr)))
              have hb20 : Blk (wX.setCell ⟨bX, 0, none⟩ (.int .i64 (yf + fr))) bX 50 [.int .i64 (yf + fr), .int .i64 yt, .int .i64 yi, .int .i64 yo] := hbX.set 0 (.int .i64 (yf + fr))
              go_upto_region 21 with fail
              clear z0 f0 HEX
              generalize wX.setCell ⟨bX, 0, none⟩ (.int .i64 (yf + fr)) = w20 at *
              clear hbX
              have z1 := hb20.cell (i := 1) rfl
              have f1 := hb20.frozen 1
              have HE21 := Lib.hid (HE20.out.set hb20 hszr hnX 1 (.int .i64 (yt + fr)))
              have hb21 : Blk (w20.setCell ⟨bX, 1, none⟩ (.int .i64 (yt + fr))) bX 50 [.int .i64 (yf + fr), .int .i64 (yt + fr), .int .i64 yi, .int .i64 yo] := hb20.set 1 (.int .i64 (yt + fr))
              go_upto_region 22 with fail
              clear z1 f1 HE20
              generalize w20.setCell ⟨bX, 1, none⟩ (.int .i64 (yt + fr)) = w21 at *
              clear hb20
              have r0 := hb21.cell (i := 0) rfl
              have r1 := hb21.cell (i := 1) rfl
              have r2 := hb21.cell (i := 2) rfl
              have r3 := hb21.cell (i := 3) rfl
              have p1 := HE21.out.out.cell (i := 1) rfl
              have HPU := Lib.hid (put2_c _ LK ⟨yf + fr, yt + fr, yi, yo⟩ w21 _ HE21.out.arcs HE21.out.ext.size (by omega))
              have HB21 := Lib.hid hb21
              have hplen := putA_len LK ⟨yf + fr, yt + fr, yi, yo⟩
              generalize putA LK ⟨yf + fr, yt + fr, yi, yo⟩ = PK at *
              go_wp2_with fail
              refine HPU.out.mono ?_; rintro e w7 ⟨v7, rfl, ho7, hx7, hq7⟩
              clear r0 r1 r2 r3 p1 HPU hb21
              obtain ⟨aP, cP, rfl⟩ := row_open ho7
              have hO7 := HE21.out.out.ext hx7
              have z1 := hO7.cell (i := 1) rfl
              have f1 := hO7.frozen 1
              have HE8 := Lib.hid (HE21.out.lay hgO hOL hOB hx7 ho7)
              have HB8 := Lib.hid (Blk.laid HE21.out.out HB21.out hx7 (.slice aP PK.length cP))
              have hn8 : (Value.slice aP PK.length cP).ownBlock ≠ some bX := fun e => by
                rcases hq7 bX e with h | h
                · exact hnX h
                · have := HB21.out.lt; omega
              clear hO7 HE21 HB21 ho7 hx7 hq7 hnX
              by_cases hy0 : yf = 0
              · have hyd : (yf == 0) = true := by simp [hy0]
                have HPE := Lib.hid (HFL.out.trans (if_pos hy0))
                have HY0 := Lib.hid hy0; clear hy0
                go_upto_region 23 with fail
                clear z1 f1
                generalize w7.setCell ⟨gO, 1, none⟩ (.slice aP PK.length cP) = w8 at *
                have z0 := HB8.out.cell (i := 0) rfl
                have f0 := HB8.out.frozen 0
                have HE9 := Lib.hid (HE8.out.set HB8.out hszr hn8 0 (.int .i64 0))
                have hb9 : Blk (w8.setCell ⟨bX, 0, none⟩ (.int .i64 0)) bX 50 [.int .i64 0, .int .i64 (yt + fr), .int .i64 yi, .int .i64 yo] := HB8.out.set 0 (.int .i64 0)
                go_upto_region 25 with fail
                clear z0 f0 HE8 HB8
                generalize w8.setCell ⟨bX, 0, none⟩ (.int .i64 0) = w9 at *
                have r0 := hb9.cell (i := 0) rfl
                have r1 := hb9.cell (i := 1) rfl
                have r2 := hb9.cell (i := 2) rfl
                have r3 := hb9.cell (i := 3) rfl
                have p1 := HE9.out.out.cell (i := 1) rfl
                have HPU := Lib.hid (put2_c _ PK ⟨0, yt + fr, yi, yo⟩ w9 _ HE9.out.arcs HE9.out.ext.size (by omega))
                clear hb9
                generalize putA PK ⟨0, yt + fr, yi, yo⟩ = PQ at *
                go_wp2_with fail
                refine HPU.out.mono ?_; rintro e w10 ⟨v10, rfl, ho10, hx10, hq10⟩
                clear r0 r1 r2 r3 p1 HPU
                obtain ⟨aQ, cQ, rfl⟩ := row_open ho10
                have hO10 := HE9.out.out.ext hx10
                have z1 := hO10.cell (i := 1) rfl
                have f1 := hO10.frozen 1
                have HE11 := Lib.hid (HE9.out.lay hgO hOL hOB hx10 ho10)
                clear hO10 HE9 ho10 hx10 hq10
                go_wp2_with fail
                go_roundg (g2-1)
                case measure => omega
                case rel => exact ⟨k+1, _, by omega, by omega, by go_num, by rw [HPE.out]; exact HE11.out⟩
              · have hyd : (yf == 0) = false := by simp [hy0]
                have HPE := Lib.hid (HFL.out.trans (if_neg hy0))
                have HY0 := Lib.hid hy0; clear hy0
                go_wp2_with fail
                go_roundg (g2-1)
                case measure => omega
                case rel => exact ⟨k+1, _, by omega, by omega, by go_num, by rw [HPE.out]; exact HE8.out⟩
            · have HTA : Hid (LA ++ eithX fr (x.a.take k) = eaN m n (j + 1)) := Lib.hid (by rw [List.take_of_length_le (by omega), HAN.out])
              rw [HTA.out] at hER
              generalize hLB : eaN m n (j + 1) = LB at *
              have HLB := Lib.hid hLB; clear hLB
              have HER := Lib.hid hER; clear hER
              go_wp2_with fail
              clear p1
              go_loopg [17, 10, 11] x.e.length (fun z i v10 v wr => ∃ (k : Nat) (t11 : Value), k ≤ x.e.length ∧ x.e.length ≤ k + z ∧ i = .int .i64 k ∧ v10 = .bool (st || hasB (x.e.take k) 0) ∧ t11 = v ∧ ER w1 wr gL [.int .i64 m.s, .slice aa m.a.length ca, .slice ae m.e.length ce, .int .i64 n.s, .slice ba n.a.length da, .slice be n.e.length de] gB [.int .i64 x.s, .slice xa x.a.length xc, .slice xe x.e.length yc] gO (1 + m.s + n.s) (.slice a9 (arcsU LB).length c9) t11 (arcsU LB) (LE ++ eithE fr (x.e.take k)))
              case atStart => exact ⟨0, _, by omega, by omega, rfl, by simp [hasB], rfl, by rw [List.take_zero]; have := HER.out; simpa [eithE] using this⟩
              case round =>
                clear HER hEr hk hkz hlk
                obtain ⟨k, t11, hk, hkz, rfl, rfl, rfl, hER⟩ := hrel
                have hEr : Ext wR wr := hE1.trans hER.ext
                obtain ⟨a10, c10, rfl⟩ := row_open hER.last
                have p2 := hER.box.cell (i := 2) rfl
                by_cases hlk : k < x.e.length
                · obtain ⟨b9, o9, rfl, hc0⟩ := HXE.out k hlk
                  replace hc0 := hEr.keep hc0
                  have hy := HOX.out.ends (x.e[k]?.getD 0) (by rw [List.getElem?_eq_getElem hlk]; exact List.getElem_mem hlk)
                  have HFL : Hid (LE ++ eithE fr (x.e.take (k + 1)) = (LE ++ eithE fr (x.e.take k)) ++ [x.e[k]?.getD 0 + fr]) := Lib.hid (by unfold eithE; rw [take_next hlk 0, List.map_append, List.append_assoc]; rfl)
                  have HSF : Hid ((st || hasB (x.e.take (k + 1)) 0) = ((st || hasB (x.e.take k) 0) || (x.e[k]?.getD 0 == 0))) := Lib.hid (by
                    rw [take_next hlk 0, hasB_eq, hasB_eq, Bool.or_assoc]; congr 1
                    rw [Bool.eq_iff_iff, List.contains_iff_mem, Bool.or_eq_true, List.contains_iff_mem, beq_iff_eq, List.mem_append, List.mem_singleton]
                    exact ⟨fun h => h.imp id Eq.symm, fun h => h.imp id Eq.symm⟩)
                  have hml : (eithE fr (x.e.take k)).length ≤ 9 := by unfold eithE; rw [List.length_map, List.length_take]; omega
                  generalize x.e[k]?.getD 0 = y at *
                  have hlen : (LE ++ eithE fr (x.e.take k)).length ≤ 1000 := by rw [List.length_append]; omega
                  generalize LE ++ eithE fr (x.e.take k) = LK at *
                  generalize (st || hasB (x.e.take k) 0) = sb at *
                  have hw1 : IntKind.i64.wrap (y + fr) = y + fr := IntWalk.i64_in _ (by omega)
                  have HER := Lib.hid hER; clear hER
                  have hszr : w1.heap.size ≤ wr.heap.size := HER.out.ext.size
                  obtain ⟨yb, hyb⟩ : ∃ b : Bool, (y == 0) = b := ⟨_, rfl⟩
                  rw [hyb] at HSF
                  cases sb
                  · cases yb
                    · go_wp2_with (at_builtin; refine wpList_append1G elInts rfl _ _ rfl rfl rfl HER.out.last rfl rfl hszr (by omega) (by omega) ?_; intro g6 cap6 w6 ho6 hg6 hq6)
                      have hb6 : Below w1.heap.size wr w6 := Below.of_grownBy hg6 HER.out.last hszr
                      have ho6' : OInts 3 w6 w1.heap.size (.slice (some ⟨g6, 0, none⟩) (LK.length + 1) cap6) (LK ++ [y + fr]) := by unfold OInts; rw [ints_append, List.length_append]; simpa [ints] using ho6
                      go_roundg (gk-1)
                      case measure => omega
                      case rel => exact ⟨k+1, _, by omega, by omega, by go_num, by rw [HSF.out]; rfl, rfl, by rw [HFL.out]; exact HER.out.pushE ho6' hb6 hg6⟩
                    · go_wp2_with (at_builtin; refine wpList_append1G elInts rfl _ _ rfl rfl rfl HER.out.last rfl rfl hszr (by omega) (by omega) ?_; intro g6 cap6 w6 ho6 hg6 hq6)
                      have hb6 : Below w1.heap.size wr w6 := Below.of_grownBy hg6 HER.out.last hszr
                      have ho6' : OInts 3 w6 w1.heap.size (.slice (some ⟨g6, 0, none⟩) (LK.length + 1) cap6) (LK ++ [y + fr]) := by unfold OInts; rw [ints_append, List.length_append]; simpa [ints] using ho6
                      go_roundg (gk-1)
                      case measure => omega
                      case rel => exact ⟨k+1, _, by omega, by omega, by go_num, by rw [HSF.out]; rfl, rfl, by rw [HFL.out]; exact HER.out.pushE ho6' hb6 hg6⟩
                  · go_wp2_with (at_builtin; refine wpList_append1G elInts rfl _ _ rfl rfl rfl HER.out.last rfl rfl hszr (by omega) (by omega) ?_; intro g6 cap6 w6 ho6 hg6 hq6)
                    have hb6 : Below w1.heap.size wr w6 := Below.of_grownBy hg6 HER.out.last hszr
                    have ho6' : OInts 3 w6 w1.heap.size (.slice (some ⟨g6, 0, none⟩) (LK.length + 1) cap6) (LK ++ [y + fr]) := by unfold OInts; rw [ints_append, List.length_append]; simpa [ints] using ho6
                    go_roundg (gk-1)
                    case measure => omega
                    case rel => exact ⟨k+1, _, by omega, by omega, by go_num, by rw [HSF.out]; rfl, rfl, by rw [HFL.out]; exact HER.out.pushE ho6' hb6 hg6⟩
                · have HTE : Hid (LE ++ eithE fr (x.e.take k) = elN m n (j + 1)) := Lib.hid (by rw [List.take_of_length_le (by omega), HEN.out])
                  have HSE : Hid ((st || hasB (x.e.take k) 0) = stN m n (j + 1)) := Lib.hid (by rw [List.take_of_length_le (by omega), HSN.out])
                  rw [HTE.out] at hER
                  rw [HTE.out, HSE.out]
                  have p0 := hER.box.cell (i := 0) rfl
                  have hw0 : IntKind.i64.wrap (fr + x.s) = fr + x.s := IntWalk.i64_in _ (by omega)
                  have HER := Lib.hid hER; clear hER
                  generalize hLF : elN m n (j + 1) = LF at *
                  have HLF := Lib.hid hLF; clear hLF
                  generalize hSF : stN m n (j + 1) = sf at *
                  have HSF := Lib.hid hSF; clear hSF
                  go_wp2_with fail
                  go_roundg (g1-1)
                  case measure => omega
                  case rel => exact ⟨j+1, _, _, by omega, by omega, by go_num, by rw [HFR.out], by rw [HSF.out], rfl, by rw [HLB.out, HLF.out]; exact ⟨HER.out.ext, HER.out.lit, HER.out.lit, HER.out.out, HER.out.arcs, HER.out.last⟩⟩
        · obtain rfl : j = 2 := by omega
          have hj2I : ¬ ((2 : Nat) : Int) < 2 := by omega
          have hEA : eaN m n 2 = eithA m n := rfl
          have HEE := Lib.hid (eith_el m n)
          have hel : (elN m n 2).length ≤ 30 := by
            have h1 := end_bd HM.out
            have h2 := end_bd HN.out
            show (eithE 1 m.e ++ eithE (1 + m.s) n.e).length ≤ 30
            unfold eithE
            rw [List.length_append, List.length_map, List.length_map]; omega
          rw [hEA] at hER
          clear hEA
          generalize hUU : arcsU (eithA m n) = U at *
          have HUU := Lib.hid hUU; clear hUU
          generalize elN m n 2 = LF at *
          generalize stN m n 2 = sf at *
          have p1 := hER.out.cell (i := 1) rfl
          have HER := Lib.hid hER; clear hER
          by_cases h60 : 60 < U.length
          · have hd3 : decide ((U.length : Int) > 60) = true := by simp; omega
            have hd4 : decide ((60 : Int) < (U.length : Int)) = true := by simp; omega
            have HK : Hid (eitherM m n = ⟨0, [], []⟩ ∧ eitherK m n = 3) := Lib.hid (by
              have h0 : madeK (1 + m.s + n.s) (eithA m n) = 3 := by rw [HK9.out, if_pos h60]
              exact ⟨by rw [HKD.out.1, madeM, h0, if_neg (by decide)], by rw [HKD.out.2, h0]⟩)
            have HXX := Lib.hid hEr
            have hM0 : OMac wr wR.heap.size (.slice none 0 0) (.slice none 0 0) ⟨0, [], []⟩ := OMac.nil _ _
            have hb := HBX.out.ext HXX.out
            have z0 := hb.cell (i := 0) rfl
            have z1 := hb.cell (i := 1) rfl
            have z2 := hb.cell (i := 2) rfl
            have f0 := hb.frozen 0
            have f1 := hb.frozen 1
            have f2 := hb.frozen 2
            have HBE := Lib.hid (And.intro (hb.store3 (.int .i64 ((⟨0, [], []⟩ : Mac)).s) (.slice none 0 0) (.slice none 0 0)) (And.intro (Ext.store3 (hER.trans HXX.out) (show w.heap.size ≤ w.heap.size + 2 by omega) (.int .i64 ((⟨0, [], []⟩ : Mac)).s) (.slice none 0 0) (.slice none 0 0))
              (hM0.store3 hb (.int .i64 ((⟨0, [], []⟩ : Mac)).s) (.slice none 0 0) (.slice none 0 0))))
            clear hb
            go_wp2_with fail
            obtain ⟨hb2, hx2', hM2⟩ := HBE.out
            clear z0 z1 z2 f0 f1 f2 HBE
            have d0 := hb2.cell (i := 0) rfl
            have d1 := hb2.cell (i := 1) rfl
            have d2 := hb2.cell (i := 2) rfl
            generalize (((wr.setCell ⟨w.heap.size + 2, 0, none⟩ (.int .i64 ((⟨0, [], []⟩ : Mac)).s)).setCell ⟨w.heap.size + 2, 1, none⟩ (.slice none 0 0)).setCell ⟨w.heap.size + 2, 2, none⟩ (.slice none 0 0)) = w4 at *
            refine bodyPost_ret (v := .tuple #[.agg #[.int .i64 ((⟨0, [], []⟩ : Mac)).s, .slice none 0 0, .slice none 0 0], .int .i64 (3)]) (by simp [results, Try.results56, go_sem, d0, d1, d2]) rfl ?_
            exact RMac2.mk HK.out.1 HK.out.2 hM2.mac hx2'
          · have hd3 : decide ((U.length : Int) > 60) = false := by simp; omega
            have hd4 : decide ((60 : Int) < (U.length : Int)) = false := by simp; omega
            have HK : Hid (eitherM m n = ⟨1 + m.s + n.s, U, eithEs m n⟩ ∧ eitherK m n = 0) := Lib.hid (by
              have h0 : madeK (1 + m.s + n.s) (eithA m n) = 0 := by rw [HK9.out, if_neg h60]
              exact ⟨by rw [HKD.out.1, madeM, if_pos h0, HUU.out], by rw [HKD.out.2, h0]⟩)
            have hU60 : U.length ≤ 60 := by omega
            clear h60 HKD HK9
            have hszr : w1.heap.size ≤ wr.heap.size := HER.out.ext.size
            have t2 := HER.out.out.cell (i := 2) rfl
            cases sf
            · have HZ := Lib.hid HER.out.ez
              have HEF : Hid (eithEs m n = [] ++ LF) := Lib.hid HEE.out
              have hszB : wr.heap.size ≤ wr.heap.size := Nat.le_refl _
              go_upto_region 36 with fail
              clear t2
              have t2 := HZ.out.out.cell (i := 2) rfl
              go_upto_region 37 with (at_builtin; refine wpList_appendIntsG elInts rfl _ _ rfl rfl rfl HZ.out.ends HZ.out.last hszB (by simp; omega) ?_; intro v8 w8 ho8 hb8 hg8; rw [← HEF.out] at ho8; obtain ⟨a8', c8', rfl⟩ := row_open ho8; have hO8 := HZ.out.out.keptR (by decide) HZ.out.ends hg8; have z2 := hO8.cell (i := 2) rfl; have f2 := hO8.frozen 2; have HF := Lib.hid (HZ.out.second hgO hszr ho8 hb8 hg8); clear hO8 hb8 hg8 ho8)
              clear t2 z2 f2 HZ
              generalize eithEs m n = CE at *
              generalize w8.setCell ⟨gO, 2, none⟩ (.slice a8' CE.length c8') = w9 at *
              obtain ⟨hF1, hF2, hF3⟩ := HF.out
              have hEr9 : Ext wR w9 := hE1.trans hF1
              have q0 := hF2.cell (i := 0) rfl
              have q1 := hF2.cell (i := 1) rfl
              have q2 := hF2.cell (i := 2) rfl
              have hb := HBX.out.ext hEr9
              have z0 := hb.cell (i := 0) rfl
              have z1 := hb.cell (i := 1) rfl
              have z2 := hb.cell (i := 2) rfl
              have f0 := hb.frozen 0
              have f1 := hb.frozen 1
              have f2 := hb.frozen 2
              have hgw : w.heap.size ≤ w.heap.size + 2 := by omega
              have HBE := Lib.hid (And.intro (hb.store3 (.int .i64 (1 + m.s + n.s)) (.slice a7 U.length c7) (.slice a8' CE.length c8')) (And.intro (Ext.store3 (hER.trans hEr9) hgw (.int .i64 (1 + m.s + n.s)) (.slice a7 U.length c7) (.slice a8' CE.length c8'))
                (hF3.store3 hb (.int .i64 (1 + m.s + n.s)) (.slice a7 U.length c7) (.slice a8' CE.length c8'))))
              clear hb hF1 hF2 hF3 HF
              go_wp2_with fail
              obtain ⟨hb2, hx2', hM2⟩ := HBE.out
              clear z0 z1 z2 f0 f1 f2 q0 q1 q2 HBE
              have d0 := hb2.cell (i := 0) rfl
              have d1 := hb2.cell (i := 1) rfl
              have d2 := hb2.cell (i := 2) rfl
              generalize (((w9.setCell ⟨w.heap.size + 2, 0, none⟩ (.int .i64 (1 + m.s + n.s))).setCell ⟨w.heap.size + 2, 1, none⟩ (.slice a7 U.length c7)).setCell ⟨w.heap.size + 2, 2, none⟩ (.slice a8' CE.length c8')) = w4 at *
              refine bodyPost_ret (v := .tuple #[.agg #[.int .i64 (1 + m.s + n.s), .slice a7 U.length c7, .slice a8' CE.length c8'], .int .i64 0]) (by simp [results, Try.results56, go_sem, d0, d1, d2]) rfl ?_
              exact RMac2.mk HK.out.1 HK.out.2 hM2.mac hx2'
            · have HEF : Hid (eithEs m n = [0] ++ LF) := Lib.hid HEE.out
              go_upto_region 36 with (at_builtin; refine wpList_appendInt (B := wr.heap.size) elInts rfl _ _ rfl rfl rfl (OInts.nil _ _ _) rfl (Nat.le_refl _) (by simp) ?_; intro v6 w6 ho6 hb6; obtain ⟨a6, c6, hv6⟩ := row_open ho6; replace hv6 : v6 = .slice a6 1 c6 := hv6; subst hv6; replace ho6 : OInts 3 w6 wr.heap.size (.slice a6 1 c6) [0] := ho6; have hx6 : Ext wr w6 := (Ext.refl wr).upto hb6 (Nat.le_refl _); have hO6 := HER.out.out.ext hx6; have z2 := hO6.cell (i := 2) rfl; have f2 := hO6.frozen 2; have HZ := Lib.hid (HER.out.first hgO hb6 ho6); have hszB6 : wr.heap.size ≤ w6.heap.size := hx6.size; clear hO6 hx6 hb6 ho6)
              clear t2 z2 f2
              generalize hW7 : w6.setCell ⟨gO, 2, none⟩ (.slice a6 1 c6) = w7 at *
              have hszB : wr.heap.size ≤ w7.heap.size := by rw [← hW7]; simpa using hszB6
              clear hW7
              have t2 := HZ.out.out.cell (i := 2) rfl
              go_upto_region 37 with (at_builtin; refine wpList_appendIntsG elInts rfl _ _ rfl rfl rfl HZ.out.ends HZ.out.last hszB (by simp; omega) ?_; intro v8 w8 ho8 hb8 hg8; rw [← HEF.out] at ho8; obtain ⟨a8', c8', rfl⟩ := row_open ho8; have hO8 := HZ.out.out.keptR (by decide) HZ.out.ends hg8; have z2 := hO8.cell (i := 2) rfl; have f2 := hO8.frozen 2; have HF := Lib.hid (HZ.out.second hgO hszr ho8 hb8 hg8); clear hO8 hb8 hg8 ho8)
              clear t2 z2 f2 HZ
              generalize eithEs m n = CE at *
              generalize w8.setCell ⟨gO, 2, none⟩ (.slice a8' CE.length c8') = w9 at *
              obtain ⟨hF1, hF2, hF3⟩ := HF.out
              have hEr9 : Ext wR w9 := hE1.trans hF1
              have q0 := hF2.cell (i := 0) rfl
              have q1 := hF2.cell (i := 1) rfl
              have q2 := hF2.cell (i := 2) rfl
              have hb := HBX.out.ext hEr9
              have z0 := hb.cell (i := 0) rfl
              have z1 := hb.cell (i := 1) rfl
              have z2 := hb.cell (i := 2) rfl
              have f0 := hb.frozen 0
              have f1 := hb.frozen 1
              have f2 := hb.frozen 2
              have hgw : w.heap.size ≤ w.heap.size + 2 := by omega
              have HBE := Lib.hid (And.intro (hb.store3 (.int .i64 (1 + m.s + n.s)) (.slice a7 U.length c7) (.slice a8' CE.length c8')) (And.intro (Ext.store3 (hER.trans hEr9) hgw (.int .i64 (1 + m.s + n.s)) (.slice a7 U.length c7) (.slice a8' CE.length c8'))
                (hF3.store3 hb (.int .i64 (1 + m.s + n.s)) (.slice a7 U.length c7) (.slice a8' CE.length c8'))))
              clear hb hF1 hF2 hF3 HF
              go_wp2_with fail
              obtain ⟨hb2, hx2', hM2⟩ := HBE.out
              clear z0 z1 z2 f0 f1 f2 q0 q1 q2 HBE
              have d0 := hb2.cell (i := 0) rfl
              have d1 := hb2.cell (i := 1) rfl
              have d2 := hb2.cell (i := 2) rfl
              generalize (((w9.setCell ⟨w.heap.size + 2, 0, none⟩ (.int .i64 (1 + m.s + n.s))).setCell ⟨w.heap.size + 2, 1, none⟩ (.slice a7 U.length c7)).setCell ⟨w.heap.size + 2, 2, none⟩ (.slice a8' CE.length c8')) = w4 at *
              refine bodyPost_ret (v := .tuple #[.agg #[.int .i64 (1 + m.s + n.s), .slice a7 U.length c7, .slice a8' CE.length c8'], .int .i64 0]) (by simp [results, Try.results56, go_sem, d0, d1, d2]) rfl ?_
              exact RMac2.mk HK.out.1 HK.out.2 hM2.mac hx2'
  · rw [show eitherM m n = ⟨0, [], []⟩ by rw [eitherM, if_neg hv], show eitherK m n = bothK m n by rw [eitherK, if_neg hv]]
    have hk : (bothK m n != 0) = true := by simp [hv]
    generalize bothK m n = kb at *
    clear hv
    have hxx : ∀ W, Ext wR W → OMac W W.heap.size (.slice none 0 0) (.slice none 0 0) ⟨0, [], []⟩ := fun W _ => OMac.nil _ _
    go_enter Try.func56, Try.ntmps56
    go_wp2_with fail
    rw [← HW.out]
    refine HBO.out.mono ?_; rintro e w1 ⟨rfl, hx1⟩
    have hM0 := hxx w1 hx1

    have hb := HBX.out.ext hx1
    have z0 := hb.cell (i := 0) rfl
    have z1 := hb.cell (i := 1) rfl
    have z2 := hb.cell (i := 2) rfl
    have f0 := hb.frozen 0
    have f1 := hb.frozen 1
    have f2 := hb.frozen 2
    have HBE := Lib.hid (And.intro (hb.store3 (.int .i64 ((⟨0, [], []⟩ : Mac)).s) (.slice none 0 0) (.slice none 0 0)) (And.intro (Ext.store3 (hER.trans hx1) (show w.heap.size ≤ w.heap.size + 2 by omega) (.int .i64 ((⟨0, [], []⟩ : Mac)).s) (.slice none 0 0) (.slice none 0 0))
      (hM0.store3 hb (.int .i64 ((⟨0, [], []⟩ : Mac)).s) (.slice none 0 0) (.slice none 0 0))))
    clear hb
    go_wp2_with fail
    obtain ⟨hb2, hx2', hM2⟩ := HBE.out
    clear z0 z1 z2 f0 f1 f2 HBE
    have d0 := hb2.cell (i := 0) rfl
    have d1 := hb2.cell (i := 1) rfl
    have d2 := hb2.cell (i := 2) rfl
    generalize (((w1.setCell ⟨w.heap.size + 2, 0, none⟩ (.int .i64 ((⟨0, [], []⟩ : Mac)).s)).setCell ⟨w.heap.size + 2, 1, none⟩ (.slice none 0 0)).setCell ⟨w.heap.size + 2, 2, none⟩ (.slice none 0 0)) = w4 at *
    refine bodyPost_ret (v := .tuple #[.agg #[.int .i64 ((⟨0, [], []⟩ : Mac)).s, .slice none 0 0, .slice none 0 0], .int .i64 (kb)]) (by simp [results, Try.results56, go_sem, d0, d1, d2]) rfl ?_

    exact RMac2.mk rfl rfl hM2.mac hx2'
end Go.Proofs.Ytodhmkbkcjpnkaa
