/- A word with two images: the walk of the program's search. -/
import Derived.Test.YtpbflkbelhlogaaMacW
import Derived.Deep.CutRange
import Derived.Deep.CutBlock
namespace Go.Proofs.Ytpbflkbelhlogaa
open Go.RowKit Go.Shelf
set_option linter.unusedVariables false

def RTwo (m : Mac) (w : World) (e : Ending) (w' : World) : Prop := ∃ v1 v2 v3, e = .returned (.tuple #[v1, v2, v3, .bool (bfsM m).isSome]) ∧ Ext w w' ∧
  Ints w' v1 (((bfsM m).map fun p => ((chain p.2 200 p.1).map Lst.i).reverse).getD []) ∧ Ints w' v2 (((bfsM m).map fun p => ((chain p.2 200 p.1).map Lst.u).reverse).getD []) ∧ Ints w' v3 (((bfsM m).map fun p => ((chain p.2 200 p.1).map Lst.v).reverse).getD [])
theorem ends_c (av ev : Value) (m : Mac) (s : Int) (w : World) (h : MacR w av ev m) : Calls Try.prog 73 #[.agg #[.int .i64 m.s, av, ev], .int .i64 s] w (RV (.bool (hasB m.e s)) w) := by
  obtain ⟨wA, hwA⟩ : ∃ wA, wA = w.alloc (.cells #[.int .i64 m.s, av, ev] 25) := ⟨_, rfl⟩
  have hE0 : Ext w wA := by rw [hwA]; exact Ext.alloc _ _
  have k0 : ∀ W, Ext wA W → W.cell? ⟨w.heap.size, 0, none⟩ = some (.int .i64 m.s) := by rw [hwA]; exact kept_alloc w _ _ rfl
  have k1 : ∀ W, Ext wA W → W.cell? ⟨w.heap.size, 1, none⟩ = some av := by rw [hwA]; exact kept_alloc w _ _ rfl
  have k2 : ∀ W, Ext wA W → W.cell? ⟨w.heap.size, 2, none⟩ = some ev := by rw [hwA]; exact kept_alloc w _ _ rfl
  have H0 : Ext wA wA := Ext.refl _
  have HC := Lib.hid (fun W (hW : Ext wA W) => contains_c ev m.e s W (h.e.ext (hE0.trans hW)))
  have HW := Lib.hid hwA; clear hwA h
  generalize hasB m.e s = b at *
  go_enter Try.func73, Try.ntmps73
  go_wp2_with fail
  rw [← HW.out]
  refine (HC.out wA H0).mono ?_; rintro e w1 ⟨rfl, rfl⟩
  go_wp2_with fail
  go_ret
  exact RV.bool rfl hE0

set_option maxHeartbeats 8000000 in
set_option maxRecDepth 100000 in
theorem two_c (av ev : Value) (m : Mac) (n : Nat) (w : World) (h : MacR w av ev m) (hM : MacIn m n) : Calls Try.prog 67 #[.agg #[.int .i64 m.s, av, ev]] w (RTwo m w) := by
  have hMs := Lib.hid hM.s
  rw [hM.s]
  obtain ⟨wA, hwA⟩ : ∃ wA, wA = w.alloc (.cells #[.int .i64 (n : Int), av, ev] 25) := ⟨_, rfl⟩
  have hE0 : Ext w wA := by rw [hwA]; exact Ext.alloc _ _
  have k0 : ∀ W, Ext wA W → W.cell? ⟨w.heap.size, 0, none⟩ = some (.int .i64 (n : Int)) := by rw [hwA]; exact kept_alloc w _ _ rfl
  have k1 : ∀ W, Ext wA W → W.cell? ⟨w.heap.size, 1, none⟩ = some av := by rw [hwA]; exact kept_alloc w _ _ rfl
  have k2 : ∀ W, Ext wA W → W.cell? ⟨w.heap.size, 2, none⟩ = some ev := by rw [hwA]; exact kept_alloc w _ _ rfl
  have H0 : Ext wA wA := Ext.refl _
  have HRE := Lib.hid (h.ext hE0)
  obtain ⟨aa, ca, rfl, hla, hma, HA⟩ := (h.ext hE0).a.open_
  obtain ⟨ae, ce, rfl, hle, hme, HE⟩ := (h.ext hE0).e.open_
  have HW := Lib.hid hwA; clear hwA h
  have hn1 := hM.n1
  have hn9 := hM.n9
  have HM := Lib.hid hM; clear hM
  have hmm := @run_makeMap Try.prog
  have hm0 : MapQ (((w.alloc (.cells #[.int .i64 (n : Int), .slice aa m.a.length ca, .slice ae m.e.length ce] 25)).alloc (.cells #[.int .i64 0, .int .i64 0, .bool false] 110)).alloc (.map #[] 0)) (w.heap.size + 1 + 1) [] :=
    ⟨#[], 0, by have := World.alloc_heap_new ((w.alloc (.cells #[.int .i64 (n : Int), .slice aa m.a.length ca, .slice ae m.e.length ce] 25)).alloc (.cells #[.int .i64 0, .int .i64 0, .bool false] 110)) (.map #[] 0); simpa using this, rfl⟩
  obtain ⟨w1, hup, hm1, hg1, hs1⟩ := run_updateQ hm0 (d := (0, 0, false)) rfl first0
  simp only [encD, encL, first0] at hup
  have hzA : wA.heap.size = w.heap.size + 1 := by rw [HW.out]; simp
  have hX1 : Ext wA w1 := by
    rw [← HW.out] at hg1
    exact ((Ext.alloc wA _).trans (Ext.alloc _ _)).grown hg1 (by simp; omega) (fun k hk => by cases hk; omega)
  have hb0 : ∀ i v, (#[Value.int .i64 0, .int .i64 0, .bool false] : Array Value)[i]? = some v → w1.cell? ⟨w.heap.size + 1, i, none⟩ = some v := fun i v hv =>
    hg1.cell ((Ext.alloc _ _).keep (by have := alloc_cell (w.alloc (.cells #[.int .i64 (n : Int), .slice aa m.a.length ca, .slice ae m.e.length ce] 25)) #[.int .i64 0, .int .i64 0, .bool false] 110 hv; simpa using this)) (by intro e; injection e with e; simp at e)
  have c0 := hb0 0 _ rfl
  have c1 := hb0 1 _ rfl
  have c2 := hb0 2 _ rfl
  clear hb0
  have hsz1 : w.heap.size + 1 + 1 < w1.heap.size := by rw [hs1]; simp
  have HT0 : Hid (TwoS wA (w1.alloc (.cells #[.int .i64 0, .int .i64 0, .bool false] 110)) (w.heap.size + 1 + 1) begin0 (.slice (some ⟨w1.heap.size, 0, none⟩) 1 1)) :=
    Lib.hid ⟨hX1.trans (Ext.alloc _ _), by omega, hm1.ext (Ext.alloc _ _), World.ownsRow_lit (size := 3) w1 #[.int .i64 0, .int .i64 0, .bool false] 1 (by omega) (by unfold maxLen; omega) rfl⟩
  have hrA : wA.heap.size ≤ w.heap.size + 1 + 1 := by omega
  clear hm0 hm1 hg1 hs1
  go_enter Try.func67, Try.ntmps67
  go_wp2_with fail
  clear c0 c1 c2 hup
  have HQ0 := Lib.hid (QOk.begin (n := n) m.a (by omega))
  go_loopg [9, 8] 200 (fun z i v wr => ∃ (i' : Nat) (q : Que), i' ≤ q.length ∧ 200 ≤ i' + z ∧ i = .int .i64 i' ∧ TwoS wA wr (w.heap.size + 1 + 1) q v ∧ Hid (QOk n m.a q) ∧ Hid (bfs m (200 - i') i' q = bfsM m))
  case atStart => exact ⟨0, begin0, by simp, by omega, rfl, HT0.out, HQ0, Lib.hid rfl⟩
  case round =>
    clear HT0 HQ0 hX1 hsz1 hrA
    obtain ⟨i, q, hi, hiz, rfl, hT, hQ, hBF⟩ := hrel
    have hlen := hQ.out.len hn9
    have HT := Lib.hid hT
    obtain ⟨gq, cq, rfl, hcq, hcm, hcells⟩ := hT.open_ hQ.out.pos
    have hEr : Ext wA wr := hT.ext
    clear hT
    obtain ⟨g1, rfl⟩ : ∃ g : Nat, g = gk := ⟨_, rfl⟩
    obtain ⟨W0, rfl⟩ : ∃ W : World, W = wr := ⟨_, rfl⟩
    by_cases hlt : i < q.length
    · have HST : Hid (bfs m (200 - i) i q = if goalD m.e (dAt q i) then some (dAt q i, q) else bfs m (200 - (i + 1)) (i + 1) (stepD m.a q (dAt q i))) := by rw [show 200 - i = (200 - (i + 1)) + 1 by omega, bfs, if_pos hlt]; exact rfl
      have HDM := Lib.hid (dAt_mem hlt)
      obtain ⟨hd0, hd1, hd2⟩ := hcells i hlt
      clear hcells
      generalize hdq : dAt q i = d at *
      obtain ⟨da, db, dd⟩ := d
      simp only at hd0 hd1 hd2
      obtain ⟨wd, hwd⟩ : ∃ wd, wd = W0.alloc (.cells #[.int .i64 da, .int .i64 db, .bool dd] 110) := ⟨_, rfl⟩
      have hHd : Held wd (.slice (some ⟨gq, 0, none⟩) q.length cq) W0.heap.size 110 [.int .i64 da, .int .i64 db, .bool dd] := by rw [hwd]; exact Held.new HT.out _ _
      have hXd : Ext W0 wd := by rw [hwd]; exact Ext.alloc _ _
      have HWD := Lib.hid hwd; clear hwd
      go_upto_region 8 with (fail)
      rw [← HWD.out]
      have e0 := hHd.1.cell (i := 0) rfl
      have e1 := hHd.1.cell (i := 1) rfl
      have e2 := hHd.1.cell (i := 2) rfl
      have hEd : Ext wA wd := hEr.trans hXd
      have HGD : Hid (goalD m.e (da, db, dd) = (dd && (hasB m.e da && hasB m.e db))) := Lib.hid rfl
      generalize goalD m.e (da, db, dd) = G at *
      go_cut [52] from 29 to 158 (fun s52 wx => s52 = .bool G ∧ Ext wd wx)
      case first =>
        have HEN := Lib.hid (fun W (hW : Ext wA W) s => by have := ends_c _ _ m s W (HRE.out.ext hW); rw [hMs.out] at this; exact this)
        cases dd
        · go_wp2_with fail
          go_meet
          case rel => exact ⟨by rw [HGD.out]; rfl, Ext.refl _⟩
        · have HC1 := Lib.hid (HEN.out wd hEd da)
          generalize hasB m.e da = ba at *
          cases ba
          · go_wp2_with fail
            refine HC1.out.mono ?_; rintro e w2 ⟨rfl, hx2⟩
            go_wp2_with fail
            go_meet
            case rel => exact ⟨by rw [HGD.out]; rfl, hx2⟩
          · go_wp2_with fail
            refine HC1.out.mono ?_; rintro e w2 ⟨rfl, hx2⟩
            have hE2 : Ext wA w2 := hEd.trans hx2
            replace e0 := hx2.keep e0
            replace e1 := hx2.keep e1
            replace e2 := hx2.keep e2
            go_wp2_with fail
            refine (HEN.out w2 hE2 db).mono ?_; rintro e w3 ⟨rfl, hx3⟩
            generalize hasB m.e db = bb at *
            go_wp2_with fail
            go_meet
            case rel => exact ⟨by rw [HGD.out]; rfl, hx2.trans hx3⟩
      case rest =>
        clear e0 e1 e2 HGD
        obtain ⟨rfl, hxc⟩ := hcut
        cases G
        · have HST2 : Hid (bfs m (200 - i) i q = bfs m (200 - (i + 1)) (i + 1) (stepD m.a q (da, db, dd))) := by rw [HST.out]; exact Lib.hid rfl
          have HTc := HT.out.later (hXd.trans hxc)
          have hHc := hHd.later hxc
          have hEc : Ext wA wc := HTc.ext
          clear hHd hXd hEd hEr hd0 hd1 hd2
          go_wp2_with fail
          clear hEc
          go_loopg [91, 8] m.a.length (fun z i v wr => ∃ (t : Nat) (q' : Que), t ≤ m.a.length ∧ m.a.length ≤ t + z ∧ i = .int .i64 t ∧ TwoS wA wr (w.heap.size + 1 + 1) q' v ∧ Held wr v W0.heap.size 110 [.int .i64 da, .int .i64 db, .bool dd] ∧ Hid (QOk n m.a q') ∧ Hid (q <+: q') ∧ Hid (q' = (m.a.take t).foldl (stepX m.a (da, db, dd)) q))
          case atStart => exact ⟨0, q, by omega, by omega, rfl, HTc, hHc, hQ, Lib.hid (List.prefix_refl _), Lib.hid rfl⟩
          case round =>
            clear HTc hHc
            obtain ⟨t, qx, ht, htz, rfl, hTx, hHx, hQx, hPx, hFx⟩ := hrel
            obtain ⟨g2, rfl⟩ : ∃ g : Nat, g = gk := ⟨_, rfl⟩
            obtain ⟨W1, rfl⟩ : ∃ W : World, W = wr := ⟨_, rfl⟩
            have hE1 : Ext wA W1 := hTx.ext
            by_cases hlt : t < m.a.length
            · obtain ⟨ba, oa, rfl, hc0, hc1, hc2, hc3⟩ := HA.out t hlt
              replace hc0 := hE1.keep hc0
              replace hc1 := hE1.keep hc1
              replace hc2 := hE1.keep hc2
              replace hc3 := hE1.keep hc3
              have HXM := Lib.hid (arcA_mem hlt)
              have HXN := Lib.hid (foldA_next hlt (stepX m.a (da, db, dd)) q)
              generalize arcA m.a t = x at *
              obtain ⟨wx, hwx⟩ : ∃ wx, wx = W1.alloc (.cells #[.int .i64 x.f, .int .i64 x.t, .int .i64 x.i, .int .i64 x.o] 50) := ⟨_, rfl⟩
              have hXx : Ext W1 wx := by rw [hwx]; exact Ext.alloc _ _
              have hHX := Held.newL hTx [.int .i64 x.f, .int .i64 x.t, .int .i64 x.i, .int .i64 x.o] 50
              rw [← hwx] at hHX
              have hHDx := hHx.later hXx
              have hTX := hTx.later hXx
              have HWX := Lib.hid hwx; clear hwx
              have hEx : Ext wA wx := hTX.ext
              go_upto_region 23 with fail
              rw [← HWX.out]
              go_wp2_with fail
              clear hc0 hc1 hc2 hc3 hEx
              go_loopg [98, 8] m.a.length (fun z i v wr => ∃ (s : Nat) (q' : Que), s ≤ m.a.length ∧ m.a.length ≤ s + z ∧ i = .int .i64 s ∧ TwoS wA wr (w.heap.size + 1 + 1) q' v ∧ Held wr v W0.heap.size 110 [.int .i64 da, .int .i64 db, .bool dd] ∧ Held wr v W1.heap.size 50 [.int .i64 x.f, .int .i64 x.t, .int .i64 x.i, .int .i64 x.o] ∧ Hid (QOk n m.a q') ∧ Hid (q <+: q') ∧ Hid (q' = (m.a.take s).foldl (stepY (da, db, dd) x) qx))
              case atStart => exact ⟨0, qx, by omega, by omega, rfl, hTX, hHDx, hHX, hQx, hPx, Lib.hid rfl⟩
              case round =>
                clear hTX hHDx hHX
                obtain ⟨s, qy, hs, hsz, rfl, hTy, hHd, hHx, hQy, hPy, hFy⟩ := hrel
                have hEr : Ext wA wr := hTy.ext
                by_cases hlt : s < m.a.length
                · obtain ⟨ba, oa, he, hc0, hc1, hc2, hc3⟩ := HA.out s hlt
                  injection he with he; injection he with he1 he2 _; subst he1 he2
                  replace hc0 := hEr.keep hc0
                  replace hc1 := hEr.keep hc1
                  replace hc2 := hEr.keep hc2
                  replace hc3 := hEr.keep hc3
                  have HYM := Lib.hid (arcA_mem hlt)
                  have HYN := Lib.hid (foldA_next hlt (stepY (da, db, dd) x) qx)
                  generalize arcA m.a s = y at *
                  obtain ⟨wB, hwB⟩ : ∃ wB, wB = wr.alloc (.cells #[.int .i64 y.f, .int .i64 y.t, .int .i64 y.i, .int .i64 y.o] 50) := ⟨_, rfl⟩
                  have hEB : Ext wr wB := by rw [hwB]; exact Ext.alloc _ _
                  have b0 : wB.cell? ⟨wr.heap.size, 0, none⟩ = some (.int .i64 y.f) := by rw [hwB]; exact alloc_cell wr _ _ rfl
                  have b1 : wB.cell? ⟨wr.heap.size, 1, none⟩ = some (.int .i64 y.t) := by rw [hwB]; exact alloc_cell wr _ _ (i := 1) rfl
                  have b2 : wB.cell? ⟨wr.heap.size, 2, none⟩ = some (.int .i64 y.i) := by rw [hwB]; exact alloc_cell wr _ _ (i := 2) rfl
                  have b3 : wB.cell? ⟨wr.heap.size, 3, none⟩ = some (.int .i64 y.o) := by rw [hwB]; exact alloc_cell wr _ _ (i := 3) rfl
                  have HWB := Lib.hid hwB; clear hwB
                  have hTB := hTy.later hEB
                  have hHdB := hHd.later hEB
                  have hHxB := hHx.later hEB
                  have d0 := hHdB.1.cell (i := 0) rfl
                  have d1 := hHdB.1.cell (i := 1) rfl
                  have d2 := hHdB.1.cell (i := 2) rfl
                  have x0 := hHxB.1.cell (i := 0) rfl
                  have x1 := hHxB.1.cell (i := 1) rfl
                  have x2 := hHxB.1.cell (i := 2) rfl
                  have x3 := hHxB.1.cell (i := 3) rfl
                  go_upto_region 26 with fail
                  rw [← HWB.out]
                  clear hc0 hc1 hc2 hc3
                  have HFD : Hid (fitD (da, db, dd) x y = (x.f == da && (y.f == db && x.i == y.i))) := Lib.hid rfl
                  by_cases hxf : x.f = da
                  · by_cases hyf : y.f = db
                    · by_cases hxi : x.i = y.i
                      · have hf1 : (x.f != da) = false := by simp [hxf]
                        have hf2 : (y.f != db) = false := by simp [hyf]
                        have hf3 : (x.i != y.i) = false := by simp [hxi]
                        have HF := Lib.hid (show fitD (da, db, dd) x y = true by rw [HFD.out]; simp [hxf, hyf, hxi])
                        clear hxf hyf hxi HFD
                        cases dd
                        · have HND : Hid (nextD (da, db, false) x y = (x.t, y.t, (x.o != y.o))) := Lib.hid rfl
                          go_upto_region 28 with fail
                          generalize (x.o != y.o) = bo at *
                          obtain ⟨wN, hwN⟩ : ∃ wN, wN = wB.alloc (.cells #[.int .i64 x.t, .int .i64 y.t, .bool bo] 110) := ⟨_, rfl⟩
                          have hXN : Ext wB wN := by rw [hwN]; exact Ext.alloc _ _
                          have c0 : wN.cell? ⟨wB.heap.size, 0, none⟩ = some (.int .i64 x.t) := by rw [hwN]; exact alloc_cell wB _ _ rfl
                          have c1 : wN.cell? ⟨wB.heap.size, 1, none⟩ = some (.int .i64 y.t) := by rw [hwN]; exact alloc_cell wB _ _ (i := 1) rfl
                          have c2 : wN.cell? ⟨wB.heap.size, 2, none⟩ = some (.bool bo) := by rw [hwN]; exact alloc_cell wB _ _ (i := 2) rfl
                          have HWN := Lib.hid hwN; clear hwN
                          rw [← HWN.out]
                          have hTN := hTB.later hXN
                          have hHdN := hHdB.later hXN
                          have hHxN := hHxB.later hXN
                          replace d0 := hXN.keep d0
                          replace d1 := hXN.keep d1
                          replace d2 := hXN.keep d2
                          replace x2 := hXN.keep x2
                          replace x3 := hXN.keep x3
                          replace b3 := hXN.keep b3
                          have hrB := hTB.map.lt
                          clear hTB hHdB hHxB hTy hHd hHx x0 x1 b0 b1 b2
                          have hlk := run_lookupQ hTN.map (x.t, y.t, bo) true
                          rw [if_pos rfl] at hlk
                          simp only [encD] at hlk
                          generalize findL qy (x.t, y.t, bo) = l at hlk
                          obtain ⟨⟨la, lb, lc⟩, li, lu, lv, lf⟩ := l
                          simp only [encL] at hlk
                          generalize hhd : hasD qy (x.t, y.t, bo) = has at hlk
                          cases has
                          · have hXP := Ext.alloc wN (.cells #[.int .i64 la, .int .i64 lb, .bool lc, .int .i64 li, .int .i64 lu, .int .i64 lv, .bool lf] 112)
                            have hTP := hTN.later hXP
                            obtain ⟨w4, hup, hm4, hg4, hs4⟩ := run_updateQ hTP.map (d := (x.t, y.t, bo)) hhd ⟨(da, db, false), x.i, x.o, y.o, false⟩
                            simp only [encD, encL] at hup
                            obtain ⟨hE4, _, hrow4⟩ := hTP.put hm4 hg4
                            have hHd4 := (hHdN.later hXP).put hTP hg4
                            have hHx4 := (hHxN.later hXP).put hTP hg4
                            have hne : some wB.heap.size ≠ some (w.heap.size + 1 + 1) := by intro e; injection e with e; omega
                            have p0 := hXP.keep c0
                            have p1 := hXP.keep c1
                            have p2 := hXP.keep c2
                            have p3 := hXP.keep d0
                            have p4 := hXP.keep d1
                            have p5 := hXP.keep d2
                            have p6 := hXP.keep x2
                            have p7 := hXP.keep x3
                            have p8 := hXP.keep b3
                            have r0 := hg4.cell p0 hne
                            have r1 := hg4.cell p1 hne
                            have r2 := hg4.cell p2 hne
                            have hB4 : wA.heap.size ≤ w4.heap.size := hE4.size
                            have hql := hQy.out.len hn9
                            have HSTEP : Hid (stepY (da, db, false) x qy y = qy ++ [((x.t, y.t, bo), ⟨(da, db, false), x.i, x.o, y.o, false⟩)]) := by
                              rw [stepY, HF.out, if_pos rfl, HND.out, hhd]; exact rfl
                            have HHU := Lib.hid hup
                            clear hs4 hhd hne
                            have HROW4 := Lib.hid hrow4; clear hrow4
                            have HONE : Hid (∀ u ∈ [Value.int .i64 x.t, .int .i64 y.t, .bool bo], u.oneCell' = true) := Lib.hid (by intro u hu; simp only [List.mem_cons, List.not_mem_nil, or_false] at hu; rcases hu with rfl | rfl | rfl <;> rfl)
                            go_wp2_with (at_builtin; refine wpList_appendN (us := [.int .i64 x.t, .int .i64 y.t, .bool bo]) elDbl rfl _ _ rfl rfl rfl HROW4.out rfl rfl HONE.out hB4 (by omega) (by omega) ?_; intro qv5 w5 hrow5 hb5 hgr5 hob5)
                            go_roundg (gk-1)
                            case measure => omega
                            case rel =>
                              have hq5 : QOk n m.a (qy ++ [((x.t, y.t, bo), ⟨(da, db, false), x.i, x.o, y.o, false⟩)]) := by
                                rw [← HSTEP.out]; exact hQy.out.stepY HM.out.arcs (mem_pre hPy.out HDM.out) HXM.out HYM.out
                              exact ⟨s+1, _, by omega, by omega, by go_num, ⟨hE4.upto hb5 (Nat.le_refl _), hTP.rlt, hm4.push HROW4.out hgr5, by rw [List.length_append, flat_snoc]; exact hrow5⟩, hHd4.push hgr5 hob5, hHx4.push hgr5 hob5, Lib.hid hq5,
                                Lib.hid (hPy.out.trans (List.prefix_append _ _)), by rw [HYN.out, ← hFy.out, HSTEP.out]; exact rfl⟩
                          · have HHS := Lib.hid hhd; clear hhd
                            go_wp2_with fail
                            go_roundg (gk-1)
                            case measure => omega
                            case rel => exact ⟨s+1, qy, by omega, by omega, by go_num, hTN.later (Ext.alloc _ _), hHdN.later (Ext.alloc _ _), hHxN.later (Ext.alloc _ _), hQy, hPy, by rw [HYN.out, ← hFy.out, stepY, HF.out, if_pos rfl, HND.out, HHS.out, if_pos rfl]; exact rfl⟩
                        · have HND : Hid (nextD (da, db, true) x y = (x.t, y.t, true)) := Lib.hid rfl
                          go_upto_region 28 with fail
                          obtain ⟨wN, hwN⟩ : ∃ wN, wN = wB.alloc (.cells #[.int .i64 x.t, .int .i64 y.t, .bool true] 110) := ⟨_, rfl⟩
                          have hXN : Ext wB wN := by rw [hwN]; exact Ext.alloc _ _
                          have c0 : wN.cell? ⟨wB.heap.size, 0, none⟩ = some (.int .i64 x.t) := by rw [hwN]; exact alloc_cell wB _ _ rfl
                          have c1 : wN.cell? ⟨wB.heap.size, 1, none⟩ = some (.int .i64 y.t) := by rw [hwN]; exact alloc_cell wB _ _ (i := 1) rfl
                          have c2 : wN.cell? ⟨wB.heap.size, 2, none⟩ = some (.bool true) := by rw [hwN]; exact alloc_cell wB _ _ (i := 2) rfl
                          have HWN := Lib.hid hwN; clear hwN
                          rw [← HWN.out]
                          have hTN := hTB.later hXN
                          have hHdN := hHdB.later hXN
                          have hHxN := hHxB.later hXN
                          replace d0 := hXN.keep d0
                          replace d1 := hXN.keep d1
                          replace d2 := hXN.keep d2
                          replace x2 := hXN.keep x2
                          replace x3 := hXN.keep x3
                          replace b3 := hXN.keep b3
                          have hrB := hTB.map.lt
                          clear hTB hHdB hHxB hTy hHd hHx x0 x1 b0 b1 b2
                          have hlk := run_lookupQ hTN.map (x.t, y.t, true) true
                          rw [if_pos rfl] at hlk
                          simp only [encD] at hlk
                          generalize findL qy (x.t, y.t, true) = l at hlk
                          obtain ⟨⟨la, lb, lc⟩, li, lu, lv, lf⟩ := l
                          simp only [encL] at hlk
                          generalize hhd : hasD qy (x.t, y.t, true) = has at hlk
                          cases has
                          · have hXP := Ext.alloc wN (.cells #[.int .i64 la, .int .i64 lb, .bool lc, .int .i64 li, .int .i64 lu, .int .i64 lv, .bool lf] 112)
                            have hTP := hTN.later hXP
                            obtain ⟨w4, hup, hm4, hg4, hs4⟩ := run_updateQ hTP.map (d := (x.t, y.t, true)) hhd ⟨(da, db, true), x.i, x.o, y.o, false⟩
                            simp only [encD, encL] at hup
                            obtain ⟨hE4, _, hrow4⟩ := hTP.put hm4 hg4
                            have hHd4 := (hHdN.later hXP).put hTP hg4
                            have hHx4 := (hHxN.later hXP).put hTP hg4
                            have hne : some wB.heap.size ≠ some (w.heap.size + 1 + 1) := by intro e; injection e with e; omega
                            have p0 := hXP.keep c0
                            have p1 := hXP.keep c1
                            have p2 := hXP.keep c2
                            have p3 := hXP.keep d0
                            have p4 := hXP.keep d1
                            have p5 := hXP.keep d2
                            have p6 := hXP.keep x2
                            have p7 := hXP.keep x3
                            have p8 := hXP.keep b3
                            have r0 := hg4.cell p0 hne
                            have r1 := hg4.cell p1 hne
                            have r2 := hg4.cell p2 hne
                            have hB4 : wA.heap.size ≤ w4.heap.size := hE4.size
                            have hql := hQy.out.len hn9
                            have HSTEP : Hid (stepY (da, db, true) x qy y = qy ++ [((x.t, y.t, true), ⟨(da, db, true), x.i, x.o, y.o, false⟩)]) := by
                              rw [stepY, HF.out, if_pos rfl, HND.out, hhd]; exact rfl
                            have HHU := Lib.hid hup
                            clear hs4 hhd hne
                            have HROW4 := Lib.hid hrow4; clear hrow4
                            have HONE : Hid (∀ u ∈ [Value.int .i64 x.t, .int .i64 y.t, .bool true], u.oneCell' = true) := Lib.hid (by intro u hu; simp only [List.mem_cons, List.not_mem_nil, or_false] at hu; rcases hu with rfl | rfl | rfl <;> rfl)
                            go_wp2_with (at_builtin; refine wpList_appendN (us := [.int .i64 x.t, .int .i64 y.t, .bool true]) elDbl rfl _ _ rfl rfl rfl HROW4.out rfl rfl HONE.out hB4 (by omega) (by omega) ?_; intro qv5 w5 hrow5 hb5 hgr5 hob5)
                            go_roundg (gk-1)
                            case measure => omega
                            case rel =>
                              have hq5 : QOk n m.a (qy ++ [((x.t, y.t, true), ⟨(da, db, true), x.i, x.o, y.o, false⟩)]) := by
                                rw [← HSTEP.out]; exact hQy.out.stepY HM.out.arcs (mem_pre hPy.out HDM.out) HXM.out HYM.out
                              exact ⟨s+1, _, by omega, by omega, by go_num, ⟨hE4.upto hb5 (Nat.le_refl _), hTP.rlt, hm4.push HROW4.out hgr5, by rw [List.length_append, flat_snoc]; exact hrow5⟩, hHd4.push hgr5 hob5, hHx4.push hgr5 hob5, Lib.hid hq5,
                                Lib.hid (hPy.out.trans (List.prefix_append _ _)), by rw [HYN.out, ← hFy.out, HSTEP.out]; exact rfl⟩
                          · have HHS := Lib.hid hhd; clear hhd
                            go_wp2_with fail
                            go_roundg (gk-1)
                            case measure => omega
                            case rel => exact ⟨s+1, qy, by omega, by omega, by go_num, hTN.later (Ext.alloc _ _), hHdN.later (Ext.alloc _ _), hHxN.later (Ext.alloc _ _), hQy, hPy, by rw [HYN.out, ← hFy.out, stepY, HF.out, if_pos rfl, HND.out, HHS.out, if_pos rfl]; exact rfl⟩
                      · have hf1 : (x.f != da) = false := by simp [hxf]
                        have hf2 : (y.f != db) = false := by simp [hyf]
                        have hf3 : (x.i != y.i) = true := by simp [hxi]
                        have HNEG := Lib.hid hxi; clear hxi
                        clear hxf
                        clear hyf
                        go_wp2_with fail
                        go_roundg (gk-1)
                        case measure => omega
                        case rel => exact ⟨s+1, qy, by omega, by omega, by go_num, hTB, hHdB, hHxB, hQy, hPy, by rw [HYN.out, ← hFy.out, stepY, HFD.out, if_neg (by simp [HNEG.out])]; exact rfl⟩
                    · have hf1 : (x.f != da) = false := by simp [hxf]
                      have hf2 : (y.f != db) = true := by simp [hyf]
                      have HNEG := Lib.hid hyf; clear hyf
                      clear hxf
                      go_wp2_with fail
                      go_roundg (gk-1)
                      case measure => omega
                      case rel => exact ⟨s+1, qy, by omega, by omega, by go_num, hTB, hHdB, hHxB, hQy, hPy, by rw [HYN.out, ← hFy.out, stepY, HFD.out, if_neg (by simp [HNEG.out])]; exact rfl⟩
                  · have hf1 : (x.f != da) = true := by simp [hxf]
                    have HNEG := Lib.hid hxf; clear hxf
                    go_wp2_with fail
                    go_roundg (gk-1)
                    case measure => omega
                    case rel => exact ⟨s+1, qy, by omega, by omega, by go_num, hTB, hHdB, hHxB, hQy, hPy, by rw [HYN.out, ← hFy.out, stepY, HFD.out, if_neg (by simp [HNEG.out])]; exact rfl⟩
                · have HXE : Hid (qy = (m.a.take (t + 1)).foldl (stepX m.a (da, db, dd)) q) := by rw [HXN.out, ← hFx.out, hFy.out, List.take_of_length_le (by omega)]; exact rfl
                  go_wp2_with fail
                  go_roundg (g2-1)
                  case measure => omega
                  case rel => exact ⟨t+1, qy, by omega, by omega, by go_num, hTy, hHd, hQy, hPy, HXE⟩
            · have HFE : Hid (qx = stepD m.a q (da, db, dd)) := by rw [hFx.out, List.take_of_length_le (by omega)]; exact rfl
              have hle : i + 1 ≤ qx.length := by have := hPx.out.length_le; omega
              go_wp2_with fail
              go_roundg (g1-1)
              case measure => omega
              case rel => exact ⟨i+1, qx, hle, by omega, by go_num, hTx, hQx, by rw [HFE.out, ← HST2.out, hBF.out]; exact rfl⟩
        · have HST2 : Hid (bfs m (200 - i) i q = some ((da, db, dd), q)) := by rw [HST.out]; exact Lib.hid rfl
          have HBM : Hid (bfsM m = some ((da, db, dd), q)) := by rw [← hBF.out, HST2.out]; exact rfl
          have HTc := HT.out.later (hXd.trans hxc)
          have hHc := hHd.later hxc
          have f0 := hHc.1.cell (i := 0) rfl
          have f1 := hHc.1.cell (i := 1) rfl
          have f2 := hHc.1.cell (i := 2) rfl
          have hlk := run_lookupQ HTc.map (da, db, dd) false
          rw [if_neg (by decide)] at hlk
          simp only [encD] at hlk
          have HLL0 : Hid (∃ l, findL q (da, db, dd) = l) := Lib.hid ⟨_, rfl⟩
          generalize hl0 : findL q (da, db, dd) = l0 at *
          have HL0 := Lib.hid hl0; clear hl0 HLL0
          simp only [encL] at hlk
          have HCS0 : Hid (CS wA (wc.alloc (.cells #[.int .i64 l0.fr.1, .int .i64 l0.fr.2.1, .bool l0.fr.2.2, .int .i64 l0.i, .int .i64 l0.u, .int .i64 l0.v, .bool l0.fst] 112)) (w.heap.size + 1 + 1) q wc.heap.size (lcells l0) [(.slice none 0 0, []), (.slice none 0 0, []), (.slice none 0 0, [])] []) :=
            Lib.hid ⟨HTc.ext.trans (Ext.alloc _ _), HTc.map.ext (Ext.alloc _ _), Blk.alloc wc _ _, OSet.nils _ _⟩
          have HQI : Hid ((q[i]?).map Prod.fst = some (da, db, dd)) := by
            rw [List.getElem?_eq_getElem hlt]
            have h2 := hdq
            unfold dAt at h2
            rw [List.getElem?_eq_getElem hlt] at h2
            exact Lib.hid (by simpa using h2)
          clear hHd hXd hEd hEr hd0 hd1 hd2 hdq
          go_wp2_with fail
          clear hlk f0 f1 f2
          go_loopg [11, 12, 13, 14] 200 (fun z s11 s12 s13 s14 wr => ∃ (d : Dbl) (dn : List Lst) (j b : Nat), j ≤ z ∧ s14 = .pointer (some ⟨b, 0, none⟩) ∧ Hid ((q[j]?).map Prod.fst = some d) ∧ Hid (chain q 200 (da, db, dd) = dn ++ chain q 200 d) ∧ dn.length + j ≤ 200 ∧
            CS wA wr (w.heap.size + 1 + 1) q b (lcells (findL q d)) [(s11, dn.map Lst.i), (s12, dn.map Lst.u), (s13, dn.map Lst.v)] [])
          case atStart => exact ⟨(da, db, dd), [], i, _, by omega, rfl, HQI, Lib.hid rfl, by simp; omega, by rw [HL0.out]; exact HCS0.out⟩
          case round =>
            clear HCS0 HQI HL0
            obtain ⟨d, dn, j, b, hjz, rfl, hqj, hch, hdl, hcs⟩ := hrel
            have hEr : Ext wA wr := hcs.ext
            obtain ⟨p, hp, hpd⟩ : ∃ p, q[j]? = some p ∧ p.1 = d := by
              have := hqj.out
              cases hq : q[j]? with
              | none => rw [hq] at this; cases this
              | some p => rw [hq] at this; exact ⟨p, rfl, by simpa using this⟩
            have HP := Lib.hid hp
            have HFND : Hid (findL q d = p.2) := by rw [← hpd]; exact Lib.hid (hQ.out.find hp)
            rw [HFND.out] at hcs
            have hjq : j < q.length := (List.getElem?_eq_some_iff.1 hp).1
            have HPD := Lib.hid hpd
            clear hp hpd
            generalize hl : p.2 = l at *
            have HL := Lib.hid hl; clear hl
            have m0 := hcs.blk.cell (i := 0) rfl
            have m1 := hcs.blk.cell (i := 1) rfl
            have m2 := hcs.blk.cell (i := 2) rfl
            have m3 := hcs.blk.cell (i := 3) rfl
            have m4 := hcs.blk.cell (i := 4) rfl
            have m5 := hcs.blk.cell (i := 5) rfl
            have m6 := hcs.blk.cell (i := 6) rfl
            have HLF : Hid (∃ f, l.fst = f) := Lib.hid ⟨_, rfl⟩
            by_cases hlf : l.fst = true
            · rw [hlf] at m6
              have HCE : Hid (chain q 200 (da, db, dd) = dn) := by
                have h1 : chain q 200 d = [] := by rw [show (200 : Nat) = 199 + 1 from rfl, chain, HFND.out, if_pos hlf]
                rw [hch.out, h1]; exact Lib.hid (by simp)
              clear hlf m0 m1 m2 m3 m4 m5
              go_wp2_with fail
              refine (reverse_g _ (dn.map Lst.i) _ _ (hcs.set.rows (_, _) (List.mem_cons_self))).mono ?_; rintro e w2 ⟨rfl, ho1, hr1⟩
              have hc1 := CS.app (pre := []) hcs (OSet.change (pre := []) hcs.set ho1 hr1 (fun r h => .inl h)) (hcs.set.rows (_, _) (List.mem_cons_self)) hr1
              go_wp2_with fail
              refine (reverse_g _ (dn.map Lst.u) _ _ (hc1.set.rows (_, _) (List.mem_cons_of_mem _ List.mem_cons_self))).mono ?_; rintro e w3 ⟨rfl, ho2, hr2⟩
              have hc2 := CS.app (pre := [_]) hc1 (OSet.change (pre := [_]) hc1.set ho2 hr2 (fun r h => .inl h)) (hc1.set.rows (_, _) (List.mem_cons_of_mem _ List.mem_cons_self)) hr2
              go_wp2_with fail
              refine (reverse_g _ (dn.map Lst.v) _ _ (hc2.set.rows (_, _) (List.mem_cons_of_mem _ (List.mem_cons_of_mem _ List.mem_cons_self)))).mono ?_; rintro e w4 ⟨rfl, ho3, hr3⟩
              have hc3 := CS.app (pre := [_, _]) hc2 (OSet.change (pre := [_, _]) hc2.set ho3 hr3 (fun r h => .inl h)) (hc2.set.rows (_, _) (List.mem_cons_of_mem _ (List.mem_cons_of_mem _ List.mem_cons_self))) hr3
              go_wp2_with fail
              ((try simp only [Exit.inBlock, Exit.then]); refine bodyPost_ret (results_tmp4 rfl _ _ _) rfl ?_)
              have hI1 := (hc3.set.rows (_, _) (List.mem_cons_self)).ints
              have hI2 := (hc3.set.rows (_, _) (List.mem_cons_of_mem _ List.mem_cons_self)).ints
              have hI3 := (hc3.set.rows (_, _) (List.mem_cons_of_mem _ (List.mem_cons_of_mem _ List.mem_cons_self))).ints
              refine ⟨_, _, _, by rw [HBM.out]; rfl, hE0.trans hc3.ext, ?_, ?_, ?_⟩
              · rw [HBM.out]; simp only [Option.map_some, Option.getD_some, HCE.out]; exact hI1
              · rw [HBM.out]; simp only [Option.map_some, Option.getD_some, HCE.out]; exact hI2
              · rw [HBM.out]; simp only [Option.map_some, Option.getD_some, HCE.out]; exact hI3
            · have hlf2 : l.fst = false := by simpa using hlf
              rw [hlf2] at m6
              have hj0 : 0 < j := by
                rcases Nat.eq_zero_or_pos j with rfl | h
                · exfalso
                  have h0 := hQ.out.h0
                  rw [HP.out] at h0
                  injection h0 with h0
                  rw [← HL.out, h0] at hlf2
                  exact absurd hlf2 (by decide)
                · exact h
              have hedge := hQ.out.ch j p HP.out hj0
              obtain ⟨_, j', p', hj', hq', hfr, _⟩ := hedge
              rw [HL.out] at hfr
              have HQ2 : Hid ((q[j']?).map Prod.fst = some l.fr) := by rw [hq', ← hfr]; exact rfl
              have HCN : Hid (chain q 200 d = l :: chain q 200 l.fr) := by
                rw [show (200 : Nat) = 199 + 1 from rfl, chain, HFND.out, if_neg hlf, ← hfr]
                rw [chain_eq hQ.out j' p' 199 (199 + 1) hq' (by omega) (by omega)]; exact rfl
              clear hlf hfr hq'
              have HLF2 := Lib.hid hlf2; clear hlf2
              go_upto_block 3 with fail
              clear m0 m1 m2 m6
              go_cut [11, 12, 13] from 56 to 78 (fun s11 s12 s13 wx => CS wA wx (w.heap.size + 1 + 1) q b (lcells l) [(s11, dn.map Lst.i ++ [l.i]), (s12, dn.map Lst.u ++ [l.u]), (s13, dn.map Lst.v ++ [l.v])] [])
              case first =>
                go_upto_region 13 with fail
                refine wp_region_free (KeepB b (lcells l)) (fun _ => True) [] [0, 1, 2, 5, 6, 7, 10, 11, 12] 9 (by kernel_rfl) (by kernel_rfl) (by intro c a d v w h; cases d <;> exact h) ?_
                have S0 := Lib.hid (hcs.later (drawn_ext wr))
                have hd : KeepB b (lcells l) { wr with drawn := wr.drawn + 1 } := S0.out.blk
                have q3 : ∀ s : InC (KeepB b (lcells l)), s.w.cell? ⟨b, 3, none⟩ = some (.int .i64 l.i) := fun s => Blk.cell (i := 3) s.h rfl
                have q4 : ∀ s : InC (KeepB b (lcells l)), s.w.cell? ⟨b, 4, none⟩ = some (.int .i64 l.u) := fun s => Blk.cell (i := 4) s.h rfl
                have q5 : ∀ s : InC (KeepB b (lcells l)), s.w.cell? ⟨b, 5, none⟩ = some (.int .i64 l.v) := fun s => Blk.cell (i := 5) s.h rfl
                clear hcs m3 m4 m5
                generalize { wr with drawn := wr.drawn + 1 } = W0 at *
                iterate 9 (refine wpPeek_look rfl ‹_› (fun K hK => ?_); go_simp; first | (refine hK _ ?_; clear hK K) | (refine ⟨_, fun _ => rfl, hK _ ?_⟩; clear hK K))
                clear hd q3 q4 q5
                refine wpPeek_nilK ?_
                refine wpAnyE_each (i := 3) (is := [8, 13]) (by kernel_rfl) ⟨?_, ?_, ?_, trivial⟩
                · refine wpOp_of_list rfl rfl (fun K hK => ?_)
                  go_wp2_with fail
                  refine ⟨KeepE.of (fun h => Blk.ext h (Ext.alloc _ _)) (fun _ => trivial), ?_⟩
                  have S1 := Lib.hid (S0.out.build l.i)
                  generalize hW1 : W0.alloc (.cells #[.int .i64 l.i] 3) = W1 at *
                  clear hW1
                  refine wpAnyE_each (i := 4) (is := [8, 13]) (by kernel_rfl) ⟨?_, ?_, ?_, trivial⟩
                  · refine wpOp_of_list rfl rfl (fun K hK => ?_)
                    refine wpList_appendSet [] _ elInts rfl _ _ rfl rfl rfl S1.out.set List.mem_cons_self S1.out.ext.size (by simp; omega) ?_
                    intro v4 W2 hs4 ho4 hg4 hb4
                    have S2 := Lib.hid (CS.app (pre := []) S1.out hs4 ho4 hg4)
                    clear hs4 ho4 hg4 hb4
                    go_wp2_with fail
                    refine ⟨KeepE.of (fun _ => S2.out.blk) (fun _ => trivial), ?_⟩
                    refine wpAnyE_each (i := 8) (is := [13]) (by kernel_rfl) ⟨?_, ?_, trivial⟩
                    · refine wpOp_of_list rfl rfl (fun K hK => ?_)
                      go_wp2_with fail
                      refine ⟨KeepE.of (fun h => Blk.ext h (Ext.alloc _ _)) (fun _ => trivial), ?_⟩
                      have S3 := Lib.hid (S2.out.build l.u)
                      generalize hW3 : W2.alloc (.cells #[.int .i64 l.u] 3) = W3 at *
                      clear hW3
                      refine wpAnyE_each (i := 9) (is := [13]) (by kernel_rfl) ⟨?_, ?_, trivial⟩
                      · refine wpOp_of_list rfl rfl (fun K hK => ?_)
                        refine wpList_appendSet [_] _ elInts rfl _ _ rfl rfl rfl S3.out.set List.mem_cons_self S3.out.ext.size (by simp; omega) ?_
                        intro v9 W4 hs9 ho9 hg9 hb9
                        have S4 := Lib.hid (CS.app (pre := [_]) S3.out hs9 ho9 hg9)
                        clear hs9 ho9 hg9 hb9
                        go_wp2_with fail
                        refine ⟨KeepE.of (fun _ => S4.out.blk) (fun _ => trivial), ?_⟩
                        refine wpAnyE_each (i := 13) (is := []) (by kernel_rfl) ⟨?_, trivial⟩
                        · refine wpOp_of_list rfl rfl (fun K hK => ?_)
                          go_wp2_with fail
                          refine ⟨KeepE.of (fun h => Blk.ext h (Ext.alloc _ _)) (fun _ => trivial), ?_⟩
                          have S5 := Lib.hid (S4.out.build l.v)
                          generalize hW5 : W4.alloc (.cells #[.int .i64 l.v] 3) = W5 at *
                          clear hW5
                          refine wpAnyE_each (i := 14) (is := []) (by kernel_rfl) ⟨?_, trivial⟩
                          · refine wpOp_of_list rfl rfl (fun K hK => ?_)
                            refine wpList_appendSet [_, _] _ elInts rfl _ _ rfl rfl rfl S5.out.set List.mem_cons_self S5.out.ext.size (by simp; omega) ?_
                            intro v14 W6 hs14 ho14 hg14 hb14
                            have S6 := Lib.hid (CS.app (pre := [_, _]) S5.out hs14 ho14 hg14)
                            clear hs14 ho14 hg14 hb14
                            go_wp2_with fail
                            refine ⟨KeepE.of (fun _ => S6.out.blk) (fun _ => trivial), ?_⟩
                            refine wpAnyE_each (i := 15) (is := []) (by kernel_rfl) ⟨?_, trivial⟩
                            refine wpOp_of_list rfl rfl (fun K hK => ?_)
                            go_wp2_with fail
                            refine ⟨KeepE.refl, ?_⟩
                            refine wpAnyE_each (i := 16) (is := []) (by kernel_rfl) ⟨?_, trivial⟩
                            refine wpOp_of_list rfl rfl (fun K hK => ?_)
                            go_wp2_with fail
                            refine ⟨KeepE.refl, ?_⟩
                            refine wpAnyE_each (i := 17) (is := []) (by kernel_rfl) ⟨?_, trivial⟩
                            refine wpOp_of_list rfl rfl (fun K hK => ?_)
                            go_wp2_with fail
                            refine ⟨KeepE.refl, ?_⟩
                            refine wpAnyE_done (by kernel_rfl) ?_
                            go_wp2_with fail
                            go_meet
                            case rel => exact S6.out.drop
                      · refine wpOp_of_list rfl rfl (fun K hK => ?_)
                        go_wp2_with fail
                        refine ⟨KeepE.of (fun h => Blk.ext h (Ext.alloc _ _)) (fun _ => trivial), ?_⟩
                        have S4 := Lib.hid (S3.out.build l.v)
                        generalize hW4 : W3.alloc (.cells #[.int .i64 l.v] 3) = W4 at *
                        clear hW4
                        refine wpAnyE_each (i := 9) (is := []) (by kernel_rfl) ⟨?_, trivial⟩
                        · refine wpOp_of_list rfl rfl (fun K hK => ?_)
                          refine wpList_appendSet [_] _ elInts rfl _ _ rfl rfl rfl S4.out.set (List.mem_cons_of_mem _ List.mem_cons_self) S4.out.ext.size (by simp; omega) ?_
                          intro v9 W5 hs9 ho9 hg9 hb9
                          have S5 := Lib.hid (CS.app (pre := [_]) S4.out hs9 ho9 hg9)
                          clear hs9 ho9 hg9 hb9
                          go_wp2_with fail
                          refine ⟨KeepE.of (fun _ => S5.out.blk) (fun _ => trivial), ?_⟩
                          refine wpAnyE_each (i := 14) (is := []) (by kernel_rfl) ⟨?_, trivial⟩
                          · refine wpOp_of_list rfl rfl (fun K hK => ?_)
                            refine wpList_appendSet [_, _] _ elInts rfl _ _ rfl rfl rfl S5.out.set List.mem_cons_self S5.out.ext.size (by simp; omega) ?_
                            intro v14 W6 hs14 ho14 hg14 hb14
                            have S6 := Lib.hid (CS.app (pre := [_, _]) S5.out hs14 ho14 hg14)
                            clear hs14 ho14 hg14 hb14
                            go_wp2_with fail
                            refine ⟨KeepE.of (fun _ => S6.out.blk) (fun _ => trivial), ?_⟩
                            refine wpAnyE_each (i := 15) (is := []) (by kernel_rfl) ⟨?_, trivial⟩
                            refine wpOp_of_list rfl rfl (fun K hK => ?_)
                            go_wp2_with fail
                            refine ⟨KeepE.refl, ?_⟩
                            refine wpAnyE_each (i := 16) (is := []) (by kernel_rfl) ⟨?_, trivial⟩
                            refine wpOp_of_list rfl rfl (fun K hK => ?_)
                            go_wp2_with fail
                            refine ⟨KeepE.refl, ?_⟩
                            refine wpAnyE_each (i := 17) (is := []) (by kernel_rfl) ⟨?_, trivial⟩
                            refine wpOp_of_list rfl rfl (fun K hK => ?_)
                            go_wp2_with fail
                            refine ⟨KeepE.refl, ?_⟩
                            refine wpAnyE_done (by kernel_rfl) ?_
                            go_wp2_with fail
                            go_meet
                            case rel => exact S6.out.drop
                    · refine wpOp_of_list rfl rfl (fun K hK => ?_)
                      go_wp2_with fail
                      refine ⟨KeepE.of (fun h => Blk.ext h (Ext.alloc _ _)) (fun _ => trivial), ?_⟩
                      have S3 := Lib.hid (S2.out.build l.v)
                      generalize hW3 : W2.alloc (.cells #[.int .i64 l.v] 3) = W3 at *
                      clear hW3
                      refine wpAnyE_each (i := 8) (is := []) (by kernel_rfl) ⟨?_, trivial⟩
                      · refine wpOp_of_list rfl rfl (fun K hK => ?_)
                        go_wp2_with fail
                        refine ⟨KeepE.of (fun h => Blk.ext h (Ext.alloc _ _)) (fun _ => trivial), ?_⟩
                        have S4 := Lib.hid (S3.out.build l.u)
                        generalize hW4 : W3.alloc (.cells #[.int .i64 l.u] 3) = W4 at *
                        clear hW4
                        refine wpAnyE_each (i := 9) (is := []) (by kernel_rfl) ⟨?_, trivial⟩
                        · refine wpOp_of_list rfl rfl (fun K hK => ?_)
                          refine wpList_appendSet [_] _ elInts rfl _ _ rfl rfl rfl S4.out.set List.mem_cons_self S4.out.ext.size (by simp; omega) ?_
                          intro v9 W5 hs9 ho9 hg9 hb9
                          have S5 := Lib.hid (CS.app (pre := [_]) S4.out hs9 ho9 hg9)
                          clear hs9 ho9 hg9 hb9
                          go_wp2_with fail
                          refine ⟨KeepE.of (fun _ => S5.out.blk) (fun _ => trivial), ?_⟩
                          refine wpAnyE_each (i := 14) (is := []) (by kernel_rfl) ⟨?_, trivial⟩
                          · refine wpOp_of_list rfl rfl (fun K hK => ?_)
                            refine wpList_appendSet [_, _] _ elInts rfl _ _ rfl rfl rfl S5.out.set (List.mem_cons_of_mem _ List.mem_cons_self) S5.out.ext.size (by simp; omega) ?_
                            intro v14 W6 hs14 ho14 hg14 hb14
                            have S6 := Lib.hid (CS.app (pre := [_, _]) S5.out hs14 ho14 hg14)
                            clear hs14 ho14 hg14 hb14
                            go_wp2_with fail
                            refine ⟨KeepE.of (fun _ => S6.out.blk) (fun _ => trivial), ?_⟩
                            refine wpAnyE_each (i := 15) (is := []) (by kernel_rfl) ⟨?_, trivial⟩
                            refine wpOp_of_list rfl rfl (fun K hK => ?_)
                            go_wp2_with fail
                            refine ⟨KeepE.refl, ?_⟩
                            refine wpAnyE_each (i := 16) (is := []) (by kernel_rfl) ⟨?_, trivial⟩
                            refine wpOp_of_list rfl rfl (fun K hK => ?_)
                            go_wp2_with fail
                            refine ⟨KeepE.refl, ?_⟩
                            refine wpAnyE_each (i := 17) (is := []) (by kernel_rfl) ⟨?_, trivial⟩
                            refine wpOp_of_list rfl rfl (fun K hK => ?_)
                            go_wp2_with fail
                            refine ⟨KeepE.refl, ?_⟩
                            refine wpAnyE_done (by kernel_rfl) ?_
                            go_wp2_with fail
                            go_meet
                            case rel => exact S6.out.drop
                  · refine wpOp_of_list rfl rfl (fun K hK => ?_)
                    go_wp2_with fail
                    refine ⟨KeepE.of (fun h => Blk.ext h (Ext.alloc _ _)) (fun _ => trivial), ?_⟩
                    have S2 := Lib.hid (S1.out.build l.u)
                    generalize hW2 : W1.alloc (.cells #[.int .i64 l.u] 3) = W2 at *
                    clear hW2
                    refine wpAnyE_each (i := 4) (is := [13]) (by kernel_rfl) ⟨?_, ?_, trivial⟩
                    · refine wpOp_of_list rfl rfl (fun K hK => ?_)
                      refine wpList_appendSet [] _ elInts rfl _ _ rfl rfl rfl S2.out.set (List.mem_cons_of_mem _ List.mem_cons_self) S2.out.ext.size (by simp; omega) ?_
                      intro v4 W3 hs4 ho4 hg4 hb4
                      have S3 := Lib.hid (CS.app (pre := []) S2.out hs4 ho4 hg4)
                      clear hs4 ho4 hg4 hb4
                      go_wp2_with fail
                      refine ⟨KeepE.of (fun _ => S3.out.blk) (fun _ => trivial), ?_⟩
                      refine wpAnyE_each (i := 9) (is := [13]) (by kernel_rfl) ⟨?_, ?_, trivial⟩
                      · refine wpOp_of_list rfl rfl (fun K hK => ?_)
                        refine wpList_appendSet [_] _ elInts rfl _ _ rfl rfl rfl S3.out.set List.mem_cons_self S3.out.ext.size (by simp; omega) ?_
                        intro v9 W4 hs9 ho9 hg9 hb9
                        have S4 := Lib.hid (CS.app (pre := [_]) S3.out hs9 ho9 hg9)
                        clear hs9 ho9 hg9 hb9
                        go_wp2_with fail
                        refine ⟨KeepE.of (fun _ => S4.out.blk) (fun _ => trivial), ?_⟩
                        refine wpAnyE_each (i := 13) (is := []) (by kernel_rfl) ⟨?_, trivial⟩
                        · refine wpOp_of_list rfl rfl (fun K hK => ?_)
                          go_wp2_with fail
                          refine ⟨KeepE.of (fun h => Blk.ext h (Ext.alloc _ _)) (fun _ => trivial), ?_⟩
                          have S5 := Lib.hid (S4.out.build l.v)
                          generalize hW5 : W4.alloc (.cells #[.int .i64 l.v] 3) = W5 at *
                          clear hW5
                          refine wpAnyE_each (i := 14) (is := []) (by kernel_rfl) ⟨?_, trivial⟩
                          · refine wpOp_of_list rfl rfl (fun K hK => ?_)
                            refine wpList_appendSet [_, _] _ elInts rfl _ _ rfl rfl rfl S5.out.set List.mem_cons_self S5.out.ext.size (by simp; omega) ?_
                            intro v14 W6 hs14 ho14 hg14 hb14
                            have S6 := Lib.hid (CS.app (pre := [_, _]) S5.out hs14 ho14 hg14)
                            clear hs14 ho14 hg14 hb14
                            go_wp2_with fail
                            refine ⟨KeepE.of (fun _ => S6.out.blk) (fun _ => trivial), ?_⟩
                            refine wpAnyE_each (i := 15) (is := []) (by kernel_rfl) ⟨?_, trivial⟩
                            refine wpOp_of_list rfl rfl (fun K hK => ?_)
                            go_wp2_with fail
                            refine ⟨KeepE.refl, ?_⟩
                            refine wpAnyE_each (i := 16) (is := []) (by kernel_rfl) ⟨?_, trivial⟩
                            refine wpOp_of_list rfl rfl (fun K hK => ?_)
                            go_wp2_with fail
                            refine ⟨KeepE.refl, ?_⟩
                            refine wpAnyE_each (i := 17) (is := []) (by kernel_rfl) ⟨?_, trivial⟩
                            refine wpOp_of_list rfl rfl (fun K hK => ?_)
                            go_wp2_with fail
                            refine ⟨KeepE.refl, ?_⟩
                            refine wpAnyE_done (by kernel_rfl) ?_
                            go_wp2_with fail
                            go_meet
                            case rel => exact S6.out.drop
                      · refine wpOp_of_list rfl rfl (fun K hK => ?_)
                        go_wp2_with fail
                        refine ⟨KeepE.of (fun h => Blk.ext h (Ext.alloc _ _)) (fun _ => trivial), ?_⟩
                        have S4 := Lib.hid (S3.out.build l.v)
                        generalize hW4 : W3.alloc (.cells #[.int .i64 l.v] 3) = W4 at *
                        clear hW4
                        refine wpAnyE_each (i := 9) (is := []) (by kernel_rfl) ⟨?_, trivial⟩
                        · refine wpOp_of_list rfl rfl (fun K hK => ?_)
                          refine wpList_appendSet [_] _ elInts rfl _ _ rfl rfl rfl S4.out.set (List.mem_cons_of_mem _ List.mem_cons_self) S4.out.ext.size (by simp; omega) ?_
                          intro v9 W5 hs9 ho9 hg9 hb9
                          have S5 := Lib.hid (CS.app (pre := [_]) S4.out hs9 ho9 hg9)
                          clear hs9 ho9 hg9 hb9
                          go_wp2_with fail
                          refine ⟨KeepE.of (fun _ => S5.out.blk) (fun _ => trivial), ?_⟩
                          refine wpAnyE_each (i := 14) (is := []) (by kernel_rfl) ⟨?_, trivial⟩
                          · refine wpOp_of_list rfl rfl (fun K hK => ?_)
                            refine wpList_appendSet [_, _] _ elInts rfl _ _ rfl rfl rfl S5.out.set List.mem_cons_self S5.out.ext.size (by simp; omega) ?_
                            intro v14 W6 hs14 ho14 hg14 hb14
                            have S6 := Lib.hid (CS.app (pre := [_, _]) S5.out hs14 ho14 hg14)
                            clear hs14 ho14 hg14 hb14
                            go_wp2_with fail
                            refine ⟨KeepE.of (fun _ => S6.out.blk) (fun _ => trivial), ?_⟩
                            refine wpAnyE_each (i := 15) (is := []) (by kernel_rfl) ⟨?_, trivial⟩
                            refine wpOp_of_list rfl rfl (fun K hK => ?_)
                            go_wp2_with fail
                            refine ⟨KeepE.refl, ?_⟩
                            refine wpAnyE_each (i := 16) (is := []) (by kernel_rfl) ⟨?_, trivial⟩
                            refine wpOp_of_list rfl rfl (fun K hK => ?_)
                            go_wp2_with fail
                            refine ⟨KeepE.refl, ?_⟩
                            refine wpAnyE_each (i := 17) (is := []) (by kernel_rfl) ⟨?_, trivial⟩
                            refine wpOp_of_list rfl rfl (fun K hK => ?_)
                            go_wp2_with fail
                            refine ⟨KeepE.refl, ?_⟩
                            refine wpAnyE_done (by kernel_rfl) ?_
                            go_wp2_with fail
                            go_meet
                            case rel => exact S6.out.drop
                    · refine wpOp_of_list rfl rfl (fun K hK => ?_)
                      go_wp2_with fail
                      refine ⟨KeepE.of (fun h => Blk.ext h (Ext.alloc _ _)) (fun _ => trivial), ?_⟩
                      have S3 := Lib.hid (S2.out.build l.v)
                      generalize hW3 : W2.alloc (.cells #[.int .i64 l.v] 3) = W3 at *
                      clear hW3
                      refine wpAnyE_each (i := 4) (is := []) (by kernel_rfl) ⟨?_, trivial⟩
                      · refine wpOp_of_list rfl rfl (fun K hK => ?_)
                        refine wpList_appendSet [] _ elInts rfl _ _ rfl rfl rfl S3.out.set (List.mem_cons_of_mem _ (List.mem_cons_of_mem _ List.mem_cons_self)) S3.out.ext.size (by simp; omega) ?_
                        intro v4 W4 hs4 ho4 hg4 hb4
                        have S4 := Lib.hid (CS.app (pre := []) S3.out hs4 ho4 hg4)
                        clear hs4 ho4 hg4 hb4
                        go_wp2_with fail
                        refine ⟨KeepE.of (fun _ => S4.out.blk) (fun _ => trivial), ?_⟩
                        refine wpAnyE_each (i := 9) (is := []) (by kernel_rfl) ⟨?_, trivial⟩
                        · refine wpOp_of_list rfl rfl (fun K hK => ?_)
                          refine wpList_appendSet [_] _ elInts rfl _ _ rfl rfl rfl S4.out.set (List.mem_cons_of_mem _ List.mem_cons_self) S4.out.ext.size (by simp; omega) ?_
                          intro v9 W5 hs9 ho9 hg9 hb9
                          have S5 := Lib.hid (CS.app (pre := [_]) S4.out hs9 ho9 hg9)
                          clear hs9 ho9 hg9 hb9
                          go_wp2_with fail
                          refine ⟨KeepE.of (fun _ => S5.out.blk) (fun _ => trivial), ?_⟩
                          refine wpAnyE_each (i := 14) (is := []) (by kernel_rfl) ⟨?_, trivial⟩
                          · refine wpOp_of_list rfl rfl (fun K hK => ?_)
                            refine wpList_appendSet [_, _] _ elInts rfl _ _ rfl rfl rfl S5.out.set List.mem_cons_self S5.out.ext.size (by simp; omega) ?_
                            intro v14 W6 hs14 ho14 hg14 hb14
                            have S6 := Lib.hid (CS.app (pre := [_, _]) S5.out hs14 ho14 hg14)
                            clear hs14 ho14 hg14 hb14
                            go_wp2_with fail
                            refine ⟨KeepE.of (fun _ => S6.out.blk) (fun _ => trivial), ?_⟩
                            refine wpAnyE_each (i := 15) (is := []) (by kernel_rfl) ⟨?_, trivial⟩
                            refine wpOp_of_list rfl rfl (fun K hK => ?_)
                            go_wp2_with fail
                            refine ⟨KeepE.refl, ?_⟩
                            refine wpAnyE_each (i := 16) (is := []) (by kernel_rfl) ⟨?_, trivial⟩
                            refine wpOp_of_list rfl rfl (fun K hK => ?_)
                            go_wp2_with fail
                            refine ⟨KeepE.refl, ?_⟩
                            refine wpAnyE_each (i := 17) (is := []) (by kernel_rfl) ⟨?_, trivial⟩
                            refine wpOp_of_list rfl rfl (fun K hK => ?_)
                            go_wp2_with fail
                            refine ⟨KeepE.refl, ?_⟩
                            refine wpAnyE_done (by kernel_rfl) ?_
                            go_wp2_with fail
                            go_meet
                            case rel => exact S6.out.drop
                  · refine wpOp_of_list rfl rfl (fun K hK => ?_)
                    go_wp2_with fail
                    refine ⟨KeepE.of (fun h => Blk.ext h (Ext.alloc _ _)) (fun _ => trivial), ?_⟩
                    have S2 := Lib.hid (S1.out.build l.v)
                    generalize hW2 : W1.alloc (.cells #[.int .i64 l.v] 3) = W2 at *
                    clear hW2
                    refine wpAnyE_each (i := 4) (is := [8]) (by kernel_rfl) ⟨?_, ?_, trivial⟩
                    · refine wpOp_of_list rfl rfl (fun K hK => ?_)
                      refine wpList_appendSet [] _ elInts rfl _ _ rfl rfl rfl S2.out.set (List.mem_cons_of_mem _ List.mem_cons_self) S2.out.ext.size (by simp; omega) ?_
                      intro v4 W3 hs4 ho4 hg4 hb4
                      have S3 := Lib.hid (CS.app (pre := []) S2.out hs4 ho4 hg4)
                      clear hs4 ho4 hg4 hb4
                      go_wp2_with fail
                      refine ⟨KeepE.of (fun _ => S3.out.blk) (fun _ => trivial), ?_⟩
                      refine wpAnyE_each (i := 8) (is := []) (by kernel_rfl) ⟨?_, trivial⟩
                      · refine wpOp_of_list rfl rfl (fun K hK => ?_)
                        go_wp2_with fail
                        refine ⟨KeepE.of (fun h => Blk.ext h (Ext.alloc _ _)) (fun _ => trivial), ?_⟩
                        have S4 := Lib.hid (S3.out.build l.u)
                        generalize hW4 : W3.alloc (.cells #[.int .i64 l.u] 3) = W4 at *
                        clear hW4
                        refine wpAnyE_each (i := 9) (is := []) (by kernel_rfl) ⟨?_, trivial⟩
                        · refine wpOp_of_list rfl rfl (fun K hK => ?_)
                          refine wpList_appendSet [_] _ elInts rfl _ _ rfl rfl rfl S4.out.set List.mem_cons_self S4.out.ext.size (by simp; omega) ?_
                          intro v9 W5 hs9 ho9 hg9 hb9
                          have S5 := Lib.hid (CS.app (pre := [_]) S4.out hs9 ho9 hg9)
                          clear hs9 ho9 hg9 hb9
                          go_wp2_with fail
                          refine ⟨KeepE.of (fun _ => S5.out.blk) (fun _ => trivial), ?_⟩
                          refine wpAnyE_each (i := 14) (is := []) (by kernel_rfl) ⟨?_, trivial⟩
                          · refine wpOp_of_list rfl rfl (fun K hK => ?_)
                            refine wpList_appendSet [_, _] _ elInts rfl _ _ rfl rfl rfl S5.out.set (List.mem_cons_of_mem _ List.mem_cons_self) S5.out.ext.size (by simp; omega) ?_
                            intro v14 W6 hs14 ho14 hg14 hb14
                            have S6 := Lib.hid (CS.app (pre := [_, _]) S5.out hs14 ho14 hg14)
                            clear hs14 ho14 hg14 hb14
                            go_wp2_with fail
                            refine ⟨KeepE.of (fun _ => S6.out.blk) (fun _ => trivial), ?_⟩
                            refine wpAnyE_each (i := 15) (is := []) (by kernel_rfl) ⟨?_, trivial⟩
                            refine wpOp_of_list rfl rfl (fun K hK => ?_)
                            go_wp2_with fail
                            refine ⟨KeepE.refl, ?_⟩
                            refine wpAnyE_each (i := 16) (is := []) (by kernel_rfl) ⟨?_, trivial⟩
                            refine wpOp_of_list rfl rfl (fun K hK => ?_)
                            go_wp2_with fail
                            refine ⟨KeepE.refl, ?_⟩
                            refine wpAnyE_each (i := 17) (is := []) (by kernel_rfl) ⟨?_, trivial⟩
                            refine wpOp_of_list rfl rfl (fun K hK => ?_)
                            go_wp2_with fail
                            refine ⟨KeepE.refl, ?_⟩
                            refine wpAnyE_done (by kernel_rfl) ?_
                            go_wp2_with fail
                            go_meet
                            case rel => exact S6.out.drop
                    · refine wpOp_of_list rfl rfl (fun K hK => ?_)
                      go_wp2_with fail
                      refine ⟨KeepE.of (fun h => Blk.ext h (Ext.alloc _ _)) (fun _ => trivial), ?_⟩
                      have S3 := Lib.hid (S2.out.build l.u)
                      generalize hW3 : W2.alloc (.cells #[.int .i64 l.u] 3) = W3 at *
                      clear hW3
                      refine wpAnyE_each (i := 4) (is := []) (by kernel_rfl) ⟨?_, trivial⟩
                      · refine wpOp_of_list rfl rfl (fun K hK => ?_)
                        refine wpList_appendSet [] _ elInts rfl _ _ rfl rfl rfl S3.out.set (List.mem_cons_of_mem _ (List.mem_cons_of_mem _ List.mem_cons_self)) S3.out.ext.size (by simp; omega) ?_
                        intro v4 W4 hs4 ho4 hg4 hb4
                        have S4 := Lib.hid (CS.app (pre := []) S3.out hs4 ho4 hg4)
                        clear hs4 ho4 hg4 hb4
                        go_wp2_with fail
                        refine ⟨KeepE.of (fun _ => S4.out.blk) (fun _ => trivial), ?_⟩
                        refine wpAnyE_each (i := 9) (is := []) (by kernel_rfl) ⟨?_, trivial⟩
                        · refine wpOp_of_list rfl rfl (fun K hK => ?_)
                          refine wpList_appendSet [_] _ elInts rfl _ _ rfl rfl rfl S4.out.set List.mem_cons_self S4.out.ext.size (by simp; omega) ?_
                          intro v9 W5 hs9 ho9 hg9 hb9
                          have S5 := Lib.hid (CS.app (pre := [_]) S4.out hs9 ho9 hg9)
                          clear hs9 ho9 hg9 hb9
                          go_wp2_with fail
                          refine ⟨KeepE.of (fun _ => S5.out.blk) (fun _ => trivial), ?_⟩
                          refine wpAnyE_each (i := 14) (is := []) (by kernel_rfl) ⟨?_, trivial⟩
                          · refine wpOp_of_list rfl rfl (fun K hK => ?_)
                            refine wpList_appendSet [_, _] _ elInts rfl _ _ rfl rfl rfl S5.out.set (List.mem_cons_of_mem _ List.mem_cons_self) S5.out.ext.size (by simp; omega) ?_
                            intro v14 W6 hs14 ho14 hg14 hb14
                            have S6 := Lib.hid (CS.app (pre := [_, _]) S5.out hs14 ho14 hg14)
                            clear hs14 ho14 hg14 hb14
                            go_wp2_with fail
                            refine ⟨KeepE.of (fun _ => S6.out.blk) (fun _ => trivial), ?_⟩
                            refine wpAnyE_each (i := 15) (is := []) (by kernel_rfl) ⟨?_, trivial⟩
                            refine wpOp_of_list rfl rfl (fun K hK => ?_)
                            go_wp2_with fail
                            refine ⟨KeepE.refl, ?_⟩
                            refine wpAnyE_each (i := 16) (is := []) (by kernel_rfl) ⟨?_, trivial⟩
                            refine wpOp_of_list rfl rfl (fun K hK => ?_)
                            go_wp2_with fail
                            refine ⟨KeepE.refl, ?_⟩
                            refine wpAnyE_each (i := 17) (is := []) (by kernel_rfl) ⟨?_, trivial⟩
                            refine wpOp_of_list rfl rfl (fun K hK => ?_)
                            go_wp2_with fail
                            refine ⟨KeepE.refl, ?_⟩
                            refine wpAnyE_done (by kernel_rfl) ?_
                            go_wp2_with fail
                            go_meet
                            case rel => exact S6.out.drop
                · refine wpOp_of_list rfl rfl (fun K hK => ?_)
                  go_wp2_with fail
                  refine ⟨KeepE.of (fun h => Blk.ext h (Ext.alloc _ _)) (fun _ => trivial), ?_⟩
                  have S1 := Lib.hid (S0.out.build l.u)
                  generalize hW1 : W0.alloc (.cells #[.int .i64 l.u] 3) = W1 at *
                  clear hW1
                  refine wpAnyE_each (i := 3) (is := [13]) (by kernel_rfl) ⟨?_, ?_, trivial⟩
                  · refine wpOp_of_list rfl rfl (fun K hK => ?_)
                    go_wp2_with fail
                    refine ⟨KeepE.of (fun h => Blk.ext h (Ext.alloc _ _)) (fun _ => trivial), ?_⟩
                    have S2 := Lib.hid (S1.out.build l.i)
                    generalize hW2 : W1.alloc (.cells #[.int .i64 l.i] 3) = W2 at *
                    clear hW2
                    refine wpAnyE_each (i := 4) (is := [13]) (by kernel_rfl) ⟨?_, ?_, trivial⟩
                    · refine wpOp_of_list rfl rfl (fun K hK => ?_)
                      refine wpList_appendSet [] _ elInts rfl _ _ rfl rfl rfl S2.out.set List.mem_cons_self S2.out.ext.size (by simp; omega) ?_
                      intro v4 W3 hs4 ho4 hg4 hb4
                      have S3 := Lib.hid (CS.app (pre := []) S2.out hs4 ho4 hg4)
                      clear hs4 ho4 hg4 hb4
                      go_wp2_with fail
                      refine ⟨KeepE.of (fun _ => S3.out.blk) (fun _ => trivial), ?_⟩
                      refine wpAnyE_each (i := 9) (is := [13]) (by kernel_rfl) ⟨?_, ?_, trivial⟩
                      · refine wpOp_of_list rfl rfl (fun K hK => ?_)
                        refine wpList_appendSet [_] _ elInts rfl _ _ rfl rfl rfl S3.out.set (List.mem_cons_of_mem _ List.mem_cons_self) S3.out.ext.size (by simp; omega) ?_
                        intro v9 W4 hs9 ho9 hg9 hb9
                        have S4 := Lib.hid (CS.app (pre := [_]) S3.out hs9 ho9 hg9)
                        clear hs9 ho9 hg9 hb9
                        go_wp2_with fail
                        refine ⟨KeepE.of (fun _ => S4.out.blk) (fun _ => trivial), ?_⟩
                        refine wpAnyE_each (i := 13) (is := []) (by kernel_rfl) ⟨?_, trivial⟩
                        · refine wpOp_of_list rfl rfl (fun K hK => ?_)
                          go_wp2_with fail
                          refine ⟨KeepE.of (fun h => Blk.ext h (Ext.alloc _ _)) (fun _ => trivial), ?_⟩
                          have S5 := Lib.hid (S4.out.build l.v)
                          generalize hW5 : W4.alloc (.cells #[.int .i64 l.v] 3) = W5 at *
                          clear hW5
                          refine wpAnyE_each (i := 14) (is := []) (by kernel_rfl) ⟨?_, trivial⟩
                          · refine wpOp_of_list rfl rfl (fun K hK => ?_)
                            refine wpList_appendSet [_, _] _ elInts rfl _ _ rfl rfl rfl S5.out.set List.mem_cons_self S5.out.ext.size (by simp; omega) ?_
                            intro v14 W6 hs14 ho14 hg14 hb14
                            have S6 := Lib.hid (CS.app (pre := [_, _]) S5.out hs14 ho14 hg14)
                            clear hs14 ho14 hg14 hb14
                            go_wp2_with fail
                            refine ⟨KeepE.of (fun _ => S6.out.blk) (fun _ => trivial), ?_⟩
                            refine wpAnyE_each (i := 15) (is := []) (by kernel_rfl) ⟨?_, trivial⟩
                            refine wpOp_of_list rfl rfl (fun K hK => ?_)
                            go_wp2_with fail
                            refine ⟨KeepE.refl, ?_⟩
                            refine wpAnyE_each (i := 16) (is := []) (by kernel_rfl) ⟨?_, trivial⟩
                            refine wpOp_of_list rfl rfl (fun K hK => ?_)
                            go_wp2_with fail
                            refine ⟨KeepE.refl, ?_⟩
                            refine wpAnyE_each (i := 17) (is := []) (by kernel_rfl) ⟨?_, trivial⟩
                            refine wpOp_of_list rfl rfl (fun K hK => ?_)
                            go_wp2_with fail
                            refine ⟨KeepE.refl, ?_⟩
                            refine wpAnyE_done (by kernel_rfl) ?_
                            go_wp2_with fail
                            go_meet
                            case rel => exact S6.out.drop
                      · refine wpOp_of_list rfl rfl (fun K hK => ?_)
                        go_wp2_with fail
                        refine ⟨KeepE.of (fun h => Blk.ext h (Ext.alloc _ _)) (fun _ => trivial), ?_⟩
                        have S4 := Lib.hid (S3.out.build l.v)
                        generalize hW4 : W3.alloc (.cells #[.int .i64 l.v] 3) = W4 at *
                        clear hW4
                        refine wpAnyE_each (i := 9) (is := []) (by kernel_rfl) ⟨?_, trivial⟩
                        · refine wpOp_of_list rfl rfl (fun K hK => ?_)
                          refine wpList_appendSet [_] _ elInts rfl _ _ rfl rfl rfl S4.out.set (List.mem_cons_of_mem _ (List.mem_cons_of_mem _ List.mem_cons_self)) S4.out.ext.size (by simp; omega) ?_
                          intro v9 W5 hs9 ho9 hg9 hb9
                          have S5 := Lib.hid (CS.app (pre := [_]) S4.out hs9 ho9 hg9)
                          clear hs9 ho9 hg9 hb9
                          go_wp2_with fail
                          refine ⟨KeepE.of (fun _ => S5.out.blk) (fun _ => trivial), ?_⟩
                          refine wpAnyE_each (i := 14) (is := []) (by kernel_rfl) ⟨?_, trivial⟩
                          · refine wpOp_of_list rfl rfl (fun K hK => ?_)
                            refine wpList_appendSet [_, _] _ elInts rfl _ _ rfl rfl rfl S5.out.set List.mem_cons_self S5.out.ext.size (by simp; omega) ?_
                            intro v14 W6 hs14 ho14 hg14 hb14
                            have S6 := Lib.hid (CS.app (pre := [_, _]) S5.out hs14 ho14 hg14)
                            clear hs14 ho14 hg14 hb14
                            go_wp2_with fail
                            refine ⟨KeepE.of (fun _ => S6.out.blk) (fun _ => trivial), ?_⟩
                            refine wpAnyE_each (i := 15) (is := []) (by kernel_rfl) ⟨?_, trivial⟩
                            refine wpOp_of_list rfl rfl (fun K hK => ?_)
                            go_wp2_with fail
                            refine ⟨KeepE.refl, ?_⟩
                            refine wpAnyE_each (i := 16) (is := []) (by kernel_rfl) ⟨?_, trivial⟩
                            refine wpOp_of_list rfl rfl (fun K hK => ?_)
                            go_wp2_with fail
                            refine ⟨KeepE.refl, ?_⟩
                            refine wpAnyE_each (i := 17) (is := []) (by kernel_rfl) ⟨?_, trivial⟩
                            refine wpOp_of_list rfl rfl (fun K hK => ?_)
                            go_wp2_with fail
                            refine ⟨KeepE.refl, ?_⟩
                            refine wpAnyE_done (by kernel_rfl) ?_
                            go_wp2_with fail
                            go_meet
                            case rel => exact S6.out.drop
                    · refine wpOp_of_list rfl rfl (fun K hK => ?_)
                      go_wp2_with fail
                      refine ⟨KeepE.of (fun h => Blk.ext h (Ext.alloc _ _)) (fun _ => trivial), ?_⟩
                      have S3 := Lib.hid (S2.out.build l.v)
                      generalize hW3 : W2.alloc (.cells #[.int .i64 l.v] 3) = W3 at *
                      clear hW3
                      refine wpAnyE_each (i := 4) (is := []) (by kernel_rfl) ⟨?_, trivial⟩
                      · refine wpOp_of_list rfl rfl (fun K hK => ?_)
                        refine wpList_appendSet [] _ elInts rfl _ _ rfl rfl rfl S3.out.set (List.mem_cons_of_mem _ List.mem_cons_self) S3.out.ext.size (by simp; omega) ?_
                        intro v4 W4 hs4 ho4 hg4 hb4
                        have S4 := Lib.hid (CS.app (pre := []) S3.out hs4 ho4 hg4)
                        clear hs4 ho4 hg4 hb4
                        go_wp2_with fail
                        refine ⟨KeepE.of (fun _ => S4.out.blk) (fun _ => trivial), ?_⟩
                        refine wpAnyE_each (i := 9) (is := []) (by kernel_rfl) ⟨?_, trivial⟩
                        · refine wpOp_of_list rfl rfl (fun K hK => ?_)
                          refine wpList_appendSet [_] _ elInts rfl _ _ rfl rfl rfl S4.out.set (List.mem_cons_of_mem _ (List.mem_cons_of_mem _ List.mem_cons_self)) S4.out.ext.size (by simp; omega) ?_
                          intro v9 W5 hs9 ho9 hg9 hb9
                          have S5 := Lib.hid (CS.app (pre := [_]) S4.out hs9 ho9 hg9)
                          clear hs9 ho9 hg9 hb9
                          go_wp2_with fail
                          refine ⟨KeepE.of (fun _ => S5.out.blk) (fun _ => trivial), ?_⟩
                          refine wpAnyE_each (i := 14) (is := []) (by kernel_rfl) ⟨?_, trivial⟩
                          · refine wpOp_of_list rfl rfl (fun K hK => ?_)
                            refine wpList_appendSet [_, _] _ elInts rfl _ _ rfl rfl rfl S5.out.set List.mem_cons_self S5.out.ext.size (by simp; omega) ?_
                            intro v14 W6 hs14 ho14 hg14 hb14
                            have S6 := Lib.hid (CS.app (pre := [_, _]) S5.out hs14 ho14 hg14)
                            clear hs14 ho14 hg14 hb14
                            go_wp2_with fail
                            refine ⟨KeepE.of (fun _ => S6.out.blk) (fun _ => trivial), ?_⟩
                            refine wpAnyE_each (i := 15) (is := []) (by kernel_rfl) ⟨?_, trivial⟩
                            refine wpOp_of_list rfl rfl (fun K hK => ?_)
                            go_wp2_with fail
                            refine ⟨KeepE.refl, ?_⟩
                            refine wpAnyE_each (i := 16) (is := []) (by kernel_rfl) ⟨?_, trivial⟩
                            refine wpOp_of_list rfl rfl (fun K hK => ?_)
                            go_wp2_with fail
                            refine ⟨KeepE.refl, ?_⟩
                            refine wpAnyE_each (i := 17) (is := []) (by kernel_rfl) ⟨?_, trivial⟩
                            refine wpOp_of_list rfl rfl (fun K hK => ?_)
                            go_wp2_with fail
                            refine ⟨KeepE.refl, ?_⟩
                            refine wpAnyE_done (by kernel_rfl) ?_
                            go_wp2_with fail
                            go_meet
                            case rel => exact S6.out.drop
                  · refine wpOp_of_list rfl rfl (fun K hK => ?_)
                    go_wp2_with fail
                    refine ⟨KeepE.of (fun h => Blk.ext h (Ext.alloc _ _)) (fun _ => trivial), ?_⟩
                    have S2 := Lib.hid (S1.out.build l.v)
                    generalize hW2 : W1.alloc (.cells #[.int .i64 l.v] 3) = W2 at *
                    clear hW2
                    refine wpAnyE_each (i := 3) (is := []) (by kernel_rfl) ⟨?_, trivial⟩
                    · refine wpOp_of_list rfl rfl (fun K hK => ?_)
                      go_wp2_with fail
                      refine ⟨KeepE.of (fun h => Blk.ext h (Ext.alloc _ _)) (fun _ => trivial), ?_⟩
                      have S3 := Lib.hid (S2.out.build l.i)
                      generalize hW3 : W2.alloc (.cells #[.int .i64 l.i] 3) = W3 at *
                      clear hW3
                      refine wpAnyE_each (i := 4) (is := []) (by kernel_rfl) ⟨?_, trivial⟩
                      · refine wpOp_of_list rfl rfl (fun K hK => ?_)
                        refine wpList_appendSet [] _ elInts rfl _ _ rfl rfl rfl S3.out.set List.mem_cons_self S3.out.ext.size (by simp; omega) ?_
                        intro v4 W4 hs4 ho4 hg4 hb4
                        have S4 := Lib.hid (CS.app (pre := []) S3.out hs4 ho4 hg4)
                        clear hs4 ho4 hg4 hb4
                        go_wp2_with fail
                        refine ⟨KeepE.of (fun _ => S4.out.blk) (fun _ => trivial), ?_⟩
                        refine wpAnyE_each (i := 9) (is := []) (by kernel_rfl) ⟨?_, trivial⟩
                        · refine wpOp_of_list rfl rfl (fun K hK => ?_)
                          refine wpList_appendSet [_] _ elInts rfl _ _ rfl rfl rfl S4.out.set (List.mem_cons_of_mem _ (List.mem_cons_of_mem _ List.mem_cons_self)) S4.out.ext.size (by simp; omega) ?_
                          intro v9 W5 hs9 ho9 hg9 hb9
                          have S5 := Lib.hid (CS.app (pre := [_]) S4.out hs9 ho9 hg9)
                          clear hs9 ho9 hg9 hb9
                          go_wp2_with fail
                          refine ⟨KeepE.of (fun _ => S5.out.blk) (fun _ => trivial), ?_⟩
                          refine wpAnyE_each (i := 14) (is := []) (by kernel_rfl) ⟨?_, trivial⟩
                          · refine wpOp_of_list rfl rfl (fun K hK => ?_)
                            refine wpList_appendSet [_, _] _ elInts rfl _ _ rfl rfl rfl S5.out.set (List.mem_cons_of_mem _ List.mem_cons_self) S5.out.ext.size (by simp; omega) ?_
                            intro v14 W6 hs14 ho14 hg14 hb14
                            have S6 := Lib.hid (CS.app (pre := [_, _]) S5.out hs14 ho14 hg14)
                            clear hs14 ho14 hg14 hb14
                            go_wp2_with fail
                            refine ⟨KeepE.of (fun _ => S6.out.blk) (fun _ => trivial), ?_⟩
                            refine wpAnyE_each (i := 15) (is := []) (by kernel_rfl) ⟨?_, trivial⟩
                            refine wpOp_of_list rfl rfl (fun K hK => ?_)
                            go_wp2_with fail
                            refine ⟨KeepE.refl, ?_⟩
                            refine wpAnyE_each (i := 16) (is := []) (by kernel_rfl) ⟨?_, trivial⟩
                            refine wpOp_of_list rfl rfl (fun K hK => ?_)
                            go_wp2_with fail
                            refine ⟨KeepE.refl, ?_⟩
                            refine wpAnyE_each (i := 17) (is := []) (by kernel_rfl) ⟨?_, trivial⟩
                            refine wpOp_of_list rfl rfl (fun K hK => ?_)
                            go_wp2_with fail
                            refine ⟨KeepE.refl, ?_⟩
                            refine wpAnyE_done (by kernel_rfl) ?_
                            go_wp2_with fail
                            go_meet
                            case rel => exact S6.out.drop
                · refine wpOp_of_list rfl rfl (fun K hK => ?_)
                  go_wp2_with fail
                  refine ⟨KeepE.of (fun h => Blk.ext h (Ext.alloc _ _)) (fun _ => trivial), ?_⟩
                  have S1 := Lib.hid (S0.out.build l.v)
                  generalize hW1 : W0.alloc (.cells #[.int .i64 l.v] 3) = W1 at *
                  clear hW1
                  refine wpAnyE_each (i := 3) (is := [8]) (by kernel_rfl) ⟨?_, ?_, trivial⟩
                  · refine wpOp_of_list rfl rfl (fun K hK => ?_)
                    go_wp2_with fail
                    refine ⟨KeepE.of (fun h => Blk.ext h (Ext.alloc _ _)) (fun _ => trivial), ?_⟩
                    have S2 := Lib.hid (S1.out.build l.i)
                    generalize hW2 : W1.alloc (.cells #[.int .i64 l.i] 3) = W2 at *
                    clear hW2
                    refine wpAnyE_each (i := 4) (is := [8]) (by kernel_rfl) ⟨?_, ?_, trivial⟩
                    · refine wpOp_of_list rfl rfl (fun K hK => ?_)
                      refine wpList_appendSet [] _ elInts rfl _ _ rfl rfl rfl S2.out.set List.mem_cons_self S2.out.ext.size (by simp; omega) ?_
                      intro v4 W3 hs4 ho4 hg4 hb4
                      have S3 := Lib.hid (CS.app (pre := []) S2.out hs4 ho4 hg4)
                      clear hs4 ho4 hg4 hb4
                      go_wp2_with fail
                      refine ⟨KeepE.of (fun _ => S3.out.blk) (fun _ => trivial), ?_⟩
                      refine wpAnyE_each (i := 8) (is := []) (by kernel_rfl) ⟨?_, trivial⟩
                      · refine wpOp_of_list rfl rfl (fun K hK => ?_)
                        go_wp2_with fail
                        refine ⟨KeepE.of (fun h => Blk.ext h (Ext.alloc _ _)) (fun _ => trivial), ?_⟩
                        have S4 := Lib.hid (S3.out.build l.u)
                        generalize hW4 : W3.alloc (.cells #[.int .i64 l.u] 3) = W4 at *
                        clear hW4
                        refine wpAnyE_each (i := 9) (is := []) (by kernel_rfl) ⟨?_, trivial⟩
                        · refine wpOp_of_list rfl rfl (fun K hK => ?_)
                          refine wpList_appendSet [_] _ elInts rfl _ _ rfl rfl rfl S4.out.set List.mem_cons_self S4.out.ext.size (by simp; omega) ?_
                          intro v9 W5 hs9 ho9 hg9 hb9
                          have S5 := Lib.hid (CS.app (pre := [_]) S4.out hs9 ho9 hg9)
                          clear hs9 ho9 hg9 hb9
                          go_wp2_with fail
                          refine ⟨KeepE.of (fun _ => S5.out.blk) (fun _ => trivial), ?_⟩
                          refine wpAnyE_each (i := 14) (is := []) (by kernel_rfl) ⟨?_, trivial⟩
                          · refine wpOp_of_list rfl rfl (fun K hK => ?_)
                            refine wpList_appendSet [_, _] _ elInts rfl _ _ rfl rfl rfl S5.out.set (List.mem_cons_of_mem _ (List.mem_cons_of_mem _ List.mem_cons_self)) S5.out.ext.size (by simp; omega) ?_
                            intro v14 W6 hs14 ho14 hg14 hb14
                            have S6 := Lib.hid (CS.app (pre := [_, _]) S5.out hs14 ho14 hg14)
                            clear hs14 ho14 hg14 hb14
                            go_wp2_with fail
                            refine ⟨KeepE.of (fun _ => S6.out.blk) (fun _ => trivial), ?_⟩
                            refine wpAnyE_each (i := 15) (is := []) (by kernel_rfl) ⟨?_, trivial⟩
                            refine wpOp_of_list rfl rfl (fun K hK => ?_)
                            go_wp2_with fail
                            refine ⟨KeepE.refl, ?_⟩
                            refine wpAnyE_each (i := 16) (is := []) (by kernel_rfl) ⟨?_, trivial⟩
                            refine wpOp_of_list rfl rfl (fun K hK => ?_)
                            go_wp2_with fail
                            refine ⟨KeepE.refl, ?_⟩
                            refine wpAnyE_each (i := 17) (is := []) (by kernel_rfl) ⟨?_, trivial⟩
                            refine wpOp_of_list rfl rfl (fun K hK => ?_)
                            go_wp2_with fail
                            refine ⟨KeepE.refl, ?_⟩
                            refine wpAnyE_done (by kernel_rfl) ?_
                            go_wp2_with fail
                            go_meet
                            case rel => exact S6.out.drop
                    · refine wpOp_of_list rfl rfl (fun K hK => ?_)
                      go_wp2_with fail
                      refine ⟨KeepE.of (fun h => Blk.ext h (Ext.alloc _ _)) (fun _ => trivial), ?_⟩
                      have S3 := Lib.hid (S2.out.build l.u)
                      generalize hW3 : W2.alloc (.cells #[.int .i64 l.u] 3) = W3 at *
                      clear hW3
                      refine wpAnyE_each (i := 4) (is := []) (by kernel_rfl) ⟨?_, trivial⟩
                      · refine wpOp_of_list rfl rfl (fun K hK => ?_)
                        refine wpList_appendSet [] _ elInts rfl _ _ rfl rfl rfl S3.out.set (List.mem_cons_of_mem _ List.mem_cons_self) S3.out.ext.size (by simp; omega) ?_
                        intro v4 W4 hs4 ho4 hg4 hb4
                        have S4 := Lib.hid (CS.app (pre := []) S3.out hs4 ho4 hg4)
                        clear hs4 ho4 hg4 hb4
                        go_wp2_with fail
                        refine ⟨KeepE.of (fun _ => S4.out.blk) (fun _ => trivial), ?_⟩
                        refine wpAnyE_each (i := 9) (is := []) (by kernel_rfl) ⟨?_, trivial⟩
                        · refine wpOp_of_list rfl rfl (fun K hK => ?_)
                          refine wpList_appendSet [_] _ elInts rfl _ _ rfl rfl rfl S4.out.set List.mem_cons_self S4.out.ext.size (by simp; omega) ?_
                          intro v9 W5 hs9 ho9 hg9 hb9
                          have S5 := Lib.hid (CS.app (pre := [_]) S4.out hs9 ho9 hg9)
                          clear hs9 ho9 hg9 hb9
                          go_wp2_with fail
                          refine ⟨KeepE.of (fun _ => S5.out.blk) (fun _ => trivial), ?_⟩
                          refine wpAnyE_each (i := 14) (is := []) (by kernel_rfl) ⟨?_, trivial⟩
                          · refine wpOp_of_list rfl rfl (fun K hK => ?_)
                            refine wpList_appendSet [_, _] _ elInts rfl _ _ rfl rfl rfl S5.out.set (List.mem_cons_of_mem _ (List.mem_cons_of_mem _ List.mem_cons_self)) S5.out.ext.size (by simp; omega) ?_
                            intro v14 W6 hs14 ho14 hg14 hb14
                            have S6 := Lib.hid (CS.app (pre := [_, _]) S5.out hs14 ho14 hg14)
                            clear hs14 ho14 hg14 hb14
                            go_wp2_with fail
                            refine ⟨KeepE.of (fun _ => S6.out.blk) (fun _ => trivial), ?_⟩
                            refine wpAnyE_each (i := 15) (is := []) (by kernel_rfl) ⟨?_, trivial⟩
                            refine wpOp_of_list rfl rfl (fun K hK => ?_)
                            go_wp2_with fail
                            refine ⟨KeepE.refl, ?_⟩
                            refine wpAnyE_each (i := 16) (is := []) (by kernel_rfl) ⟨?_, trivial⟩
                            refine wpOp_of_list rfl rfl (fun K hK => ?_)
                            go_wp2_with fail
                            refine ⟨KeepE.refl, ?_⟩
                            refine wpAnyE_each (i := 17) (is := []) (by kernel_rfl) ⟨?_, trivial⟩
                            refine wpOp_of_list rfl rfl (fun K hK => ?_)
                            go_wp2_with fail
                            refine ⟨KeepE.refl, ?_⟩
                            refine wpAnyE_done (by kernel_rfl) ?_
                            go_wp2_with fail
                            go_meet
                            case rel => exact S6.out.drop
                  · refine wpOp_of_list rfl rfl (fun K hK => ?_)
                    go_wp2_with fail
                    refine ⟨KeepE.of (fun h => Blk.ext h (Ext.alloc _ _)) (fun _ => trivial), ?_⟩
                    have S2 := Lib.hid (S1.out.build l.u)
                    generalize hW2 : W1.alloc (.cells #[.int .i64 l.u] 3) = W2 at *
                    clear hW2
                    refine wpAnyE_each (i := 3) (is := []) (by kernel_rfl) ⟨?_, trivial⟩
                    · refine wpOp_of_list rfl rfl (fun K hK => ?_)
                      go_wp2_with fail
                      refine ⟨KeepE.of (fun h => Blk.ext h (Ext.alloc _ _)) (fun _ => trivial), ?_⟩
                      have S3 := Lib.hid (S2.out.build l.i)
                      generalize hW3 : W2.alloc (.cells #[.int .i64 l.i] 3) = W3 at *
                      clear hW3
                      refine wpAnyE_each (i := 4) (is := []) (by kernel_rfl) ⟨?_, trivial⟩
                      · refine wpOp_of_list rfl rfl (fun K hK => ?_)
                        refine wpList_appendSet [] _ elInts rfl _ _ rfl rfl rfl S3.out.set List.mem_cons_self S3.out.ext.size (by simp; omega) ?_
                        intro v4 W4 hs4 ho4 hg4 hb4
                        have S4 := Lib.hid (CS.app (pre := []) S3.out hs4 ho4 hg4)
                        clear hs4 ho4 hg4 hb4
                        go_wp2_with fail
                        refine ⟨KeepE.of (fun _ => S4.out.blk) (fun _ => trivial), ?_⟩
                        refine wpAnyE_each (i := 9) (is := []) (by kernel_rfl) ⟨?_, trivial⟩
                        · refine wpOp_of_list rfl rfl (fun K hK => ?_)
                          refine wpList_appendSet [_] _ elInts rfl _ _ rfl rfl rfl S4.out.set (List.mem_cons_of_mem _ List.mem_cons_self) S4.out.ext.size (by simp; omega) ?_
                          intro v9 W5 hs9 ho9 hg9 hb9
                          have S5 := Lib.hid (CS.app (pre := [_]) S4.out hs9 ho9 hg9)
                          clear hs9 ho9 hg9 hb9
                          go_wp2_with fail
                          refine ⟨KeepE.of (fun _ => S5.out.blk) (fun _ => trivial), ?_⟩
                          refine wpAnyE_each (i := 14) (is := []) (by kernel_rfl) ⟨?_, trivial⟩
                          · refine wpOp_of_list rfl rfl (fun K hK => ?_)
                            refine wpList_appendSet [_, _] _ elInts rfl _ _ rfl rfl rfl S5.out.set (List.mem_cons_of_mem _ (List.mem_cons_of_mem _ List.mem_cons_self)) S5.out.ext.size (by simp; omega) ?_
                            intro v14 W6 hs14 ho14 hg14 hb14
                            have S6 := Lib.hid (CS.app (pre := [_, _]) S5.out hs14 ho14 hg14)
                            clear hs14 ho14 hg14 hb14
                            go_wp2_with fail
                            refine ⟨KeepE.of (fun _ => S6.out.blk) (fun _ => trivial), ?_⟩
                            refine wpAnyE_each (i := 15) (is := []) (by kernel_rfl) ⟨?_, trivial⟩
                            refine wpOp_of_list rfl rfl (fun K hK => ?_)
                            go_wp2_with fail
                            refine ⟨KeepE.refl, ?_⟩
                            refine wpAnyE_each (i := 16) (is := []) (by kernel_rfl) ⟨?_, trivial⟩
                            refine wpOp_of_list rfl rfl (fun K hK => ?_)
                            go_wp2_with fail
                            refine ⟨KeepE.refl, ?_⟩
                            refine wpAnyE_each (i := 17) (is := []) (by kernel_rfl) ⟨?_, trivial⟩
                            refine wpOp_of_list rfl rfl (fun K hK => ?_)
                            go_wp2_with fail
                            refine ⟨KeepE.refl, ?_⟩
                            refine wpAnyE_done (by kernel_rfl) ?_
                            go_wp2_with fail
                            go_meet
                            case rel => exact S6.out.drop
              case rest =>
                clear m3 m4 m5 hcs
                have m0 := hcut.blk.cell (i := 0) rfl
                have m1 := hcut.blk.cell (i := 1) rfl
                have m2 := hcut.blk.cell (i := 2) rfl
                have m3 := hcut.blk.cell (i := 3) rfl
                have m4 := hcut.blk.cell (i := 4) rfl
                have m5 := hcut.blk.cell (i := 5) rfl
                have m6 := hcut.blk.cell (i := 6) rfl
                have hXN := Ext.alloc wc (.cells (lcells l).toArray 112)
                have hlk := run_lookupQ (hcut.map.ext hXN) l.fr false
                rw [if_neg (by decide)] at hlk
                simp only [encD, lcells] at hlk
                generalize hl2 : findL q l.fr = l2 at *
                have HL2 := Lib.hid hl2; clear hl2
                simp only [encL] at hlk
                have HCUT := Lib.hid hcut; clear hcut
                have HCH : Hid (chain q 200 (da, db, dd) = (dn ++ [l]) ++ chain q 200 l.fr) := by rw [hch.out, HCN.out]; exact Lib.hid (by simp)
                have HFIN : Hid (CS wA (wc.alloc (.cells (lcells l2).toArray 112)) (w.heap.size + 1 + 1) q wc.heap.size (lcells l2) [(u11, (dn ++ [l]).map Lst.i), (u12, (dn ++ [l]).map Lst.u), (u13, (dn ++ [l]).map Lst.v)] []) := by
                  have h1 := HCUT.out.fresh (Ext.alloc wc (.cells (lcells l2).toArray 112)) (Blk.alloc wc (lcells l2).toArray 112)
                  simp only [List.map_append, List.map_cons, List.map_nil]
                  exact Lib.hid h1
                clear hXN
                go_wp2_with fail
                go_roundg (gk-1)
                case measure => omega
                case rel => exact ⟨l.fr, dn ++ [l], j', _, by omega, rfl, HQ2, HCH, by simp; omega, by rw [HL2.out]; exact HFIN.out⟩
    · have HST2 : Hid (bfs m (200 - i) i q = none) := by rw [show 200 - i = (200 - (i + 1)) + 1 by omega, bfs, if_neg hlt]; exact rfl
      have HN : Hid (bfsM m = none) := by rw [← hBF.out, HST2.out]; exact rfl
      go_wp2_with fail
      ((try simp only [Exit.inBlock, Exit.then]); refine bodyPost_ret (results_tmp4 rfl _ _ _) rfl ?_)
      exact ⟨_, _, _, by rw [HN.out]; rfl, hE0.trans hEr, by rw [HN.out]; exact ints_nil_c _, by rw [HN.out]; exact ints_nil_c _, by rw [HN.out]; exact ints_nil_c _⟩
end Go.Proofs.Ytpbflkbelhlogaa
