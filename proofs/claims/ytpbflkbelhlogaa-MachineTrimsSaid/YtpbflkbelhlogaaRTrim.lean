/- Machines: Trim of the reference. -/
import Derived.Test.YtpbflkbelhlogaaJoinedRowMachineTrims
import Derived.Test.YtpbflkbelhlogaaShoR
import Derived.Test.YtpbflkbelhlogaaRComp
import Derived.Test.YtpbflkbelhlogaaFree
namespace Go.Proofs.Ytpbflkbelhlogaa
open Go.RowKit Go.Shelf
set_option linter.unusedVariables false
/-- a world without its last blocks -/
def cutW (w : World) (n : Nat) : World := { w with heap := w.heap.extract 0 n }
theorem cutW_size (w : World) (n : Nat) : (cutW w n).heap.size = min n w.heap.size := by simp [cutW]
theorem cutW_get (w : World) {n k : Nat} (h : k < n) : (cutW w n).heap[k]? = w.heap[k]? := by
  show (w.heap.extract 0 n)[k]? = _
  rw [Array.getElem?_extract]
  split
  · simp
  · rename_i h2
    rw [Array.getElem?_eq_none (by omega)]
theorem cutW_ext (w : World) (n : Nat) : Ext (cutW w n) w :=
  ⟨rfl, rfl, rfl, by rw [cutW_size]; omega, fun k hk => (cutW_get w (by rw [cutW_size] at hk; omega)).symm⟩
theorem Ext.cutW {w0 w : World} (h : Ext w0 w) {n : Nat} (hn : w0.heap.size ≤ n) : Ext w0 (cutW w n) :=
  ⟨h.os, h.tape, h.output, by rw [cutW_size]; have := h.size; omega, fun k hk => (cutW_get w (by omega)).trans (h.block k hk)⟩
theorem Blk.cutW {w : World} {g n : Nat} {ty : TypeId} {l : List Value} (h : Blk w g ty l) (hn : g < n) : Blk (cutW w n) g ty l := (cutW_get w hn).trans h
set_option maxHeartbeats 8000000 in
set_option maxRecDepth 100000 in
theorem rTrim_c (av ev : Value) (m : Mac) (w : World) (h : MacR w av ev m) : Calls Try.prog 59 #[.agg #[.int .i64 m.s, av, ev]] w (RMac2 (trimM m) (validM m) w) := by
  obtain ⟨w1_, hw1_⟩ : ∃ W, W = w.alloc (.cells #[.int .i64 m.s, av, ev] 25) := ⟨_, rfl⟩
  obtain ⟨wR, hwR⟩ : ∃ W, W = w1_.alloc (.cells #[.int .i64 0, .slice none 0 0, .slice none 0 0] 25) := ⟨_, rfl⟩
  have hz1_ : w1_.heap.size = w.heap.size + 1 := by rw [hw1_]; simp
  have x1_ : Ext w w1_ := by rw [hw1_]; exact Ext.alloc _ _
  have x2_ : Ext w1_ wR := by rw [hwR]; exact Ext.alloc _ _
  have hER : Ext w wR := x1_.trans x2_
  have kk : ∀ i v, #[Value.int .i64 m.s, av, ev][i]? = some v → ∀ W, Ext wR W → W.cell? ⟨w.heap.size, i, none⟩ = some v := fun i v h W hW => kept_alloc w _ _ h W (by rw [← hw1_]; exact x2_.trans hW)
  have k0 := kk 0 _ rfl
  have k1 := kk 1 _ rfl
  have k2 := kk 2 _ rfl
  have HBX : Hid (Blk wR (w.heap.size + 1) 25 [.int .i64 0, .slice none 0 0, .slice none 0 0]) := Lib.hid (by rw [hwR, ← hz1_]; exact Blk.alloc w1_ _ _)
  have hzR : wR.heap.size = w.heap.size + 2 := by rw [hwR]; simp [hz1_]
  have H0 : Ext wR wR := Ext.refl _
  have HRM := Lib.hid (h.ext hER)
  obtain ⟨aa, ca, rfl, hla, hma, HA⟩ := (h.ext hER).a.open_
  obtain ⟨ae, ce, rfl, hle, hme, HE⟩ := (h.ext hER).e.open_
  have HW := Lib.hid (show wR = (w.alloc (.cells #[.int .i64 m.s, .slice aa m.a.length ca, .slice ae m.e.length ce] 25)).alloc (.cells #[.int .i64 0, .slice none 0 0, .slice none 0 0] 25) by rw [hwR, hw1_])
  clear hwR hw1_ hz1_ x1_ x2_ kk h
  have HVA := Lib.hid (rValidate_c _ _ m wR HRM.out)
  by_cases hv : validM m = 0
  · have hM := validM_mac hv
    have HM := Lib.hid hM
    obtain ⟨n, hn⟩ : ∃ n : Nat, m.s = n := ⟨m.s.toNat, by have := hM.s1; omega⟩
    have hn1 : 1 ≤ n := by have := hM.s1; omega
    have hn9 : n ≤ 9 := by have := hM.s2; omega
    have hnt : m.s.toNat = n := by omega
    have HNT := Lib.hid hnt
    have HN := Lib.hid hn
    have HFL : Hid ((farL m).length = n) := Lib.hid (by unfold farL; rw [pRnd_len, far0_len, hnt])
    have HTL : Hid (thL m = thR m.a (beginB n) n) := Lib.hid (by unfold thL; rw [hnt])
    have HMA : Hid (¬ at0 (farL m) 0 < 0 → trimM m = ⟨(cntU m n : Nat), arcsU (trimA m), trimE m⟩) := Lib.hid (fun h0 => by rw [trimM, if_pos hv, if_neg h0, hnt])
    have HMB : Hid (at0 (farL m) 0 < 0 → trimM m = ⟨1, [], []⟩) := Lib.hid (fun h0 => by rw [trimM, if_pos hv, if_pos h0])
    have HFA : Hid (∀ W, Ext wR W → Calls Try.prog 92 #[.agg #[.int .i64 (n : Int), .slice aa m.a.length ca, .slice ae m.e.length ce]] W (RRow (farL m) W)) := Lib.hid (fun W hW => by rw [← hn]; exact rfar_c _ _ m W (HRM.out.ext hW) hM)
    rw [hv] at HVA ⊢
    rw [hn] at HVA HW k0
    clear hv hM hnt
    rw [hn]
    clear hn
    go_enter Try.func59, Try.ntmps59
    go_wp2_with fail
    rw [← HW.out]
    refine HVA.out.mono ?_; rintro e w1 ⟨rfl, hx1⟩
    have hs1 := hx1.size
    go_wp2_with (at_make; go_loud (refine wpList_make_blk n elBools rfl rfl _ _ rfl rfl rfl (by omega) (by omega) ?_; intro g w3 hg hblk hx3 hg3; have hbk : BBools w3 g (List.replicate n false) := (by unfold BBools; simpa using hblk); have hbc := hbk.cell (i := 0) (by rw [List.length_replicate]; omega); have hbf := Blk.frozen hbk 0; have HB0 := Lib.hid (hbk.set 0 true); have HX3 := Lib.hid hx3; clear hblk hbk))
    have hxA : Ext wR (w3.setCell ⟨g, 0, none⟩ (.bool true)) := (hx1.trans HX3.out).setCell (by omega) _ _
    clear hbc hbf hg3
    generalize w3.setCell ⟨g, 0, none⟩ (.bool true) = w3' at *
    go_loopg [6] n (fun z i wr => ∃ r : Nat, r ≤ n ∧ n ≤ r + z ∧ i = .int .i64 r ∧ Ext wR wr ∧ BBools wr g (thR m.a (beginB n) r))
    case atStart => exact ⟨0, by omega, by omega, rfl, hxA, HB0.out⟩
    case round =>
      clear HB0 hxA hx3 HX3
      obtain ⟨r, hr, hrz, rfl, hEr, hbk⟩ := hrel
      obtain ⟨g1, rfl⟩ : ∃ g : Nat, g = gk := ⟨_, rfl⟩
      by_cases hlt2 : r < n
      · have hrI : (r : Int) < (n : Int) := by omega
        have HNX : Hid (thR m.a (beginB n) (r + 1) = thF m.a (thR m.a (beginB n) r) m.a.length) := Lib.hid (thR_next _ _ _)
        have HRL : Hid ((thR m.a (beginB n) r).length = n) := Lib.hid (by rw [thR_len, beginB_len])
        have hb0 : BBools wr g (thF m.a (thR m.a (beginB n) r) 0) := hbk
        generalize thR m.a (beginB n) r = R at *
        obtain ⟨w0, hw0⟩ : ∃ w0, w0 = wr := ⟨_, rfl⟩
        rw [← hw0] at hb0 hEr ⊢
        clear hw0 hbk
        go_wp2_with fail
        go_loopg [7] m.a.length (fun z i wr => ∃ j : Nat, j ≤ m.a.length ∧ m.a.length ≤ j + z ∧ i = .int .i64 j ∧ Ext wR wr ∧ BBools wr g (thF m.a R j))
        case atStart => exact ⟨0, by omega, by omega, rfl, hEr, hb0⟩
        case round =>
          clear hb0 hEr
          obtain ⟨j, hj, hj2, rfl, hEr, hbb⟩ := hrel
          by_cases hjl : j < m.a.length
          · have hjI : (j : Int) < (m.a.length : Int) := by omega
            obtain ⟨ba, oa, rfl, hc0, hc1, hc2, hc3⟩ := HA.out j hjl
            replace hc0 := hEr.keep hc0
            replace hc1 := hEr.keep hc1
            replace hc2 := hEr.keep hc2
            replace hc3 := hEr.keep hc3
            have hst := HM.out.arc hjl
            have hst1 := thF_next hjl R
            have HST := Lib.hid hst1; clear hst1
            have hlb : (thF m.a R j).length = n := by rw [thF_len]; exact HRL.out
            generalize arcA m.a j = y at *
            generalize thF m.a R j = bb at *
            obtain ⟨yf, yt, yi, yo⟩ := y
            simp only at hc0 hc1 hc2 hc3 hst
            obtain ⟨p, rfl⟩ : ∃ p : Nat, yf = p := ⟨yf.toNat, by omega⟩
            obtain ⟨q, rfl⟩ : ∃ q : Nat, yt = q := ⟨yt.toNat, by omega⟩
            have hp : p < n := by have := HN.out; omega
            have hq : q < n := by have := HN.out; omega
            clear hst
            have hcp := hbb.cell (i := p) (by omega)
            cases hP : bb[p]?.getD false
            · rw [hP] at hcp
              have HSY := Lib.hid (tS_no (l := bb) (a := ⟨(p : Int), (q : Int), yi, yo⟩) hP)
              have HBB := Lib.hid hbb
              clear hP hbb
              go_wp2_with fail
              go_roundg (gk-1)
              case measure => omega
              case rel => exact ⟨j+1, by omega, by omega, by go_num, hEr, by rw [HST.out, HSY.out]; exact HBB.out⟩
            · rw [hP] at hcp
              have HSY := Lib.hid (tS_yes (l := bb) (a := ⟨(p : Int), (q : Int), yi, yo⟩) hP)
              have hcq := hbb.cell (i := q) (by omega)
              have hfq := Blk.frozen hbb q
              have HB2 := Lib.hid (hbb.set q true)
              clear hP hbb
              go_wp2_with fail
              go_roundg (gk-1)
              case measure => omega
              case rel => exact ⟨j+1, by omega, by omega, by go_num, hEr.setCell (by omega) _ _, by rw [HST.out, HSY.out]; exact HB2.out⟩
          · have HB := Lib.hid hbb
            clear hbb
            have hjm : j = m.a.length := by omega
            subst hjm
            go_wp2_with fail
            go_roundg (g1-1)
            case measure => omega
            case rel => exact ⟨r+1, by omega, by omega, by go_num, hEr, by rw [HNX.out]; exact HB.out⟩
      · have hrn : r = n := by omega
        subst hrn
        rw [← HTL.out] at hbk
        have HBT0 := Lib.hid hbk; clear hbk
        have HFW := Lib.hid (HFA.out wr hEr)
        go_wp2_with fail
        refine HFW.out.mono ?_; rintro e w4 ⟨gL, rfl, hbL, hgL, hx4⟩
        have HBL := Lib.hid hbL
        have hR4 := hEr.trans hx4
        have HBT : Hid (BBools w4 g (thL m)) := Lib.hid (Blk.ext HBT0.out hx4)
        rw [HFL.out]
        have hl0 := HBL.out.cell (i := 0) (by rw [HFL.out]; omega)
        replace hl0 : w4.cell? ⟨gL, 0, none⟩ = some (.int .i64 (at0 (farL m) 0)) := hl0
        obtain ⟨x0, hx0⟩ : ∃ x, at0 (farL m) 0 = x := ⟨_, rfl⟩
        rw [hx0] at hl0 HMA HMB
        clear hx0 hbL
        by_cases hneg : x0 < 0
        · have hd0 : decide (x0 < 0) = true := by simpa using hneg
          have HK := Lib.hid (HMB.out (by omega))
          clear HMA
          have hM0 : OMac w4 w4.heap.size (.slice none 0 0) (.slice none 0 0) ⟨1, [], []⟩ := ⟨World.ownsRow_nil _ _ _ _, OInts.nil _ _ _⟩
          have hb := HBX.out.ext hR4
          have z0 := hb.cell (i := 0) rfl
          have z1 := hb.cell (i := 1) rfl
          have z2 := hb.cell (i := 2) rfl
          have f0 := hb.frozen 0
          have f1 := hb.frozen 1
          have f2 := hb.frozen 2
          have HBE := Lib.hid (And.intro (hb.store3 (.int .i64 ((⟨1, [], []⟩ : Mac)).s) (.slice none 0 0) (.slice none 0 0)) (And.intro (Ext.store3 (hER.trans hR4) (show w.heap.size ≤ w.heap.size + 1 by omega) (.int .i64 ((⟨1, [], []⟩ : Mac)).s) (.slice none 0 0) (.slice none 0 0))
            (hM0.store3 hb (.int .i64 ((⟨1, [], []⟩ : Mac)).s) (.slice none 0 0) (.slice none 0 0))))
          clear hb
          go_wp2_with fail
          obtain ⟨hb2, hx2', hM2⟩ := HBE.out
          clear z0 z1 z2 f0 f1 f2 HBE
          have d0 := hb2.cell (i := 0) rfl
          have d1 := hb2.cell (i := 1) rfl
          have d2 := hb2.cell (i := 2) rfl
          generalize (((w4.setCell ⟨w.heap.size + 1, 0, none⟩ (.int .i64 ((⟨1, [], []⟩ : Mac)).s)).setCell ⟨w.heap.size + 1, 1, none⟩ (.slice none 0 0)).setCell ⟨w.heap.size + 1, 2, none⟩ (.slice none 0 0)) = w4 at *
          refine bodyPost_ret (v := .tuple #[.agg #[.int .i64 ((⟨1, [], []⟩ : Mac)).s, .slice none 0 0, .slice none 0 0], .int .i64 (0)]) (by simp [results, Try.results59, go_sem, d0, d1, d2]) rfl ?_
          exact RMac2.mk HK.out rfl hM2.mac hx2'
        · have hd0 : decide (x0 < 0) = false := by simpa using hneg
          have HK := Lib.hid (HMA.out (by omega))
          clear HMA HMB hneg
          go_wp2_with (at_make; refine wpList_make_blk r elInts rfl rfl _ _ rfl rfl rfl (by omega) (by omega) ?_; intro g9 w5 hg9 hblk hx5 hg5; have HB9 : Hid (BInts w5 g9 (numsL m 0)) := Lib.hid (by rw [numsL_zero, HNT.out]; unfold BInts; simpa using hblk); have hR5 := hR4.trans hx5; clear hblk)
          have hO0 := Blk.alloc w5 #[.int .i64 0, .slice none 0 0, .slice none 0 0] 25
          have hx6 : Ext w4 (w5.alloc (.cells #[.int .i64 0, .slice none 0 0, .slice none 0 0] 25)) := hx5.trans (Ext.alloc _ _)
          have HB9' := Lib.hid (Blk.ext HB9.out (Ext.alloc w5 (.cells #[.int .i64 0, .slice none 0 0, .slice none 0 0] 25)))
          obtain ⟨gO, hgO⟩ : ∃ g, w5.heap.size = g := ⟨_, rfl⟩
          rw [hgO] at hO0 hg5
          have hR5s := hR5.size
          have hO4 : w4.heap.size ≤ gO := by have := hx5.size; omega
          generalize w5.alloc (.cells #[.int .i64 0, .slice none 0 0, .slice none 0 0] 25) = w5' at *
          rw [hgO]
          go_loopg [11] r (fun z i wr => ∃ k : Nat, k ≤ r ∧ r ≤ k + z ∧ i = .int .i64 k ∧ Ext w4 wr ∧ BInts wr g9 (numsL m k) ∧ Blk wr gO 25 [.int .i64 (cntU m k : Nat), .slice none 0 0, .slice none 0 0])
          case atStart => exact ⟨0, by omega, by omega, rfl, hx6, HB9'.out, hO0⟩
          case round =>
            clear HB9 HB9' hO0 hx6 hl0 hd0
            obtain ⟨k, hk, hkz, rfl, hEk, hbn, hbO⟩ := hrel
            have hRk := hR4.trans hEk
            by_cases hlk : k < r
            · have hkI : (k : Int) < (r : Int) := by omega
              have hNl : k < (numsL m k).length := by rw [numsL_len m (by rw [HNT.out]; omega), HNT.out]; exact hlk
              have hnc := hbn.cell hNl
              have hnf := Blk.frozen hbn k
              have HS1 := Lib.hid (And.intro (hEk.setCell hg9 k (.int .i64 (-1))) (And.intro (hbn.set k (-1)) (hbO.other (c := g9) (by omega) k (.int .i64 (-1)))))
              have HUY : Hid (useB m k = true → ((numsL m k).set k (-1)).set k (cntU m k : Int) = numsL m (k + 1) ∧ cntU m (k + 1) = cntU m k + 1) := Lib.hid (fun h => nums_use (by rw [HNT.out]; exact hlk) h)
              have HUN : Hid (useB m k = false → (numsL m k).set k (-1) = numsL m (k + 1) ∧ cntU m (k + 1) = cntU m k) := Lib.hid (fun h => nums_not (by rw [HNT.out]; exact hlk) h)
              have HUP := Lib.hid (use_parts m k)
              have hcl := cntU_le m k
              have HNL : Hid (k < ((numsL m k).set k (-1)).length) := Lib.hid (by rw [List.length_set]; exact hNl)
              clear hbn hNl hbO
              generalize numsL m k = NL at *
              generalize cntU m k = c at *
              go_upto_region 23 with fail
              clear hnc hnf
              generalize wr.setCell ⟨g9, k, none⟩ (.int .i64 (-1)) = wS at *
              obtain ⟨hES, hbS, hOS⟩ := HS1.out
              have hcT := hES.keep (HBT.out.cell (i := k) (by rw [thL_len, HNT.out]; exact hlk))
              have hcL := hES.keep (HBL.out.cell (i := k) (by rw [HFL.out]; exact hlk))
              replace hcT : wS.cell? ⟨g, k, none⟩ = some (.bool (getB (thL m) k)) := hcT
              replace hcL : wS.cell? ⟨gL, k, none⟩ = some (.int .i64 (at0 (farL m) k)) := hcL
              generalize getB (thL m) k = bt at *
              generalize at0 (farL m) k = xl at *
              have hRS := hR4.trans hES
              have hnc := hbS.cell (i := k) HNL.out
              have hnf := Blk.frozen hbS k
              have hoc := hOS.cell (i := 0) rfl
              have HS2 := Lib.hid (And.intro (hES.setCell hg9 k (.int .i64 (c : Int))) (And.intro (hbS.set k (c : Int)) (hOS.other (c := g9) (by omega) k (.int .i64 (c : Int)))))
              have HSS := Lib.hid (And.intro hES (And.intro hbS hOS))
              clear HS1 hbS hES hOS
              have hwc : IntKind.i64.wrap ((c : Int) + 1) = (c : Int) + 1 := IntWalk.i64_in _ (by omega)
              cases bt
              · have HU := Lib.hid (HUN.out (by rw [HUP.out]; rfl))
                clear HUY HUN HUP
                go_wp2_with fail
                go_roundg (gk-1)
                case measure => omega
                case rel => exact ⟨k+1, by omega, by omega, by go_num, HSS.out.1, by rw [← HU.out.1]; exact HSS.out.2.1, by rw [HU.out.2]; exact HSS.out.2.2⟩
              · by_cases hxl : 0 ≤ xl
                · have hd1 : decide (xl ≥ 0) = true := by simpa using hxl
                  have hd2 : decide (0 ≤ xl) = true := by simpa using hxl
                  have HU := Lib.hid (HUY.out (by rw [HUP.out, hd2]; rfl))
                  clear HUY HUN HUP
                  go_upto_region 25 with fail
                  clear hnc hnf hoc hcT hcL
                  generalize wS.setCell ⟨g9, k, none⟩ (.int .i64 (c : Int)) = wT at *
                  obtain ⟨hET, hbT, hOT⟩ := HS2.out
                  have hoc := hOT.cell (i := 0) rfl
                  have hof := hOT.frozen 0
                  have HS3 := Lib.hid (And.intro (hET.setCell hO4 0 (.int .i64 ((c : Int) + 1))) (And.intro (hbT.other (c := gO) (by omega) 0 (.int .i64 ((c : Int) + 1))) (hOT.set 0 (.int .i64 ((c : Int) + 1)))))
                  have hRT := hR4.trans hET
                  clear hET hbT hOT HS2
                  go_wp2_with fail
                  go_roundg (gk-1)
                  case measure => omega
                  case rel => exact ⟨k+1, by omega, by omega, by go_num, HS3.out.1, by rw [← HU.out.1]; exact HS3.out.2.1, by rw [HU.out.2]; have := HS3.out.2.2; simpa using this⟩
                · have hd1 : decide (xl ≥ 0) = false := by simpa using hxl
                  have hd2 : decide (0 ≤ xl) = false := by simpa using hxl
                  have HU := Lib.hid (HUN.out (by rw [HUP.out, hd2]; rfl))
                  clear HUY HUN HUP
                  go_wp2_with fail
                  go_roundg (gk-1)
                  case measure => omega
                  case rel => exact ⟨k+1, by omega, by omega, by go_num, HSS.out.1, by rw [← HU.out.1]; exact HSS.out.2.1, by rw [HU.out.2]; exact HSS.out.2.2⟩
            · have hkr : k = r := by omega
              subst hkr
              obtain ⟨w6, rfl⟩ : ∃ W : World, W = wr := ⟨_, rfl⟩
              have hkI : ¬ (k : Int) < (k : Int) := by omega
              obtain ⟨wb, hwb⟩ : ∃ W, W = cutW w6 gO := ⟨_, rfl⟩
              have hb6 : Ext wb w6 := by rw [hwb]; exact cutW_ext _ _
              have hRb : Ext wR wb := by rw [hwb]; exact hRk.cutW (by omega)
              have hbs : wb.heap.size ≤ gO := by rw [hwb, cutW_size]; omega
              have hnb : BInts wb g9 (numsL m k) := by rw [hwb]; exact Blk.cutW hbn (by omega)
              have HNC : Hid (∀ W, Ext wb W → ∀ s, s < k → W.cell? ⟨g9, s, none⟩ = some (.int .i64 (numN m s))) := Lib.hid (fun W hW s hs => by
                have h1 := hW.keep (hnb.cell (i := s) (by rw [numsL_len m (by rw [HNT.out]; omega), HNT.out]; exact hs))
                have h2 := numsL_at m (s := s) (by rw [HNT.out]; exact hs)
                rw [HNT.out] at h2
                rw [← h2]; exact h1)
              have HT0 : Hid (TurnS wb w6 (w.heap.size + 1) gO (cntU m k : Nat) (.slice none 0 0) (.slice none 0 0) [] []) := Lib.hid ⟨hb6, World.ownsRow_nil _ _ _ _, OInts.nil _ _ _, hbO, HBX.out.ext hRk⟩
              clear hbn hnb hwb hbO
              have hcU := cntU_le m k
              generalize cntU m k = c at *
              have hgR : w.heap.size + 1 < gO := by omega
              go_wp2_with fail
              go_loopg [12] m.a.length (fun z i wr => ∃ (j : Nat) (v1 : Value), j ≤ m.a.length ∧ m.a.length ≤ j + z ∧ i = .int .i64 j ∧ TurnS wb wr (w.heap.size + 1) gO (c : Nat) v1 (.slice none 0 0) (arcsU (tAT m j)) [])
              case atStart => exact ⟨0, _, by omega, by omega, rfl, HT0.out⟩
              case round =>
                clear HT0
                obtain ⟨j, v1, hj, hjz, rfl, hT⟩ := hrel
                have hEr : Ext wR wr := hRb.trans hT.ext
                have hma60 := HM.out.a
                have htl := tAT_len m j
                have htu := arcsU_le (tAT m j)
                obtain ⟨a1, c1, rfl⟩ := row_open hT.arcs
                by_cases hjl : j < m.a.length
                · have hjI : (j : Int) < (m.a.length : Int) := by omega
                  obtain ⟨ba, oa, rfl, hc0, hc1, hc2, hc3⟩ := HA.out j hjl
                  replace hc0 := hEr.keep hc0
                  replace hc1 := hEr.keep hc1
                  replace hc2 := hEr.keep hc2
                  replace hc3 := hEr.keep hc3
                  have hst := HM.out.arc hjl
                  have HNX := Lib.hid (tAT_put hjl)
                  generalize arcA m.a j = y at *
                  generalize arcsU (tAT m j) = LL at *
                  obtain ⟨yf, yt, yi, yo⟩ := y
                  simp only at hc0 hc1 hc2 hc3 hst
                  obtain ⟨p, rfl⟩ : ∃ p : Nat, yf = p := ⟨yf.toNat, by omega⟩
                  obtain ⟨q, rfl⟩ : ∃ q : Nat, yt = q := ⟨yt.toNat, by omega⟩
                  have hp : p < k := by have := HN.out; omega
                  have hq : q < k := by have := HN.out; omega
                  clear hst
                  obtain ⟨wB, hwB⟩ : ∃ wB, wB = wr.alloc (.cells #[.int .i64 (p : Int), .int .i64 (q : Int), .int .i64 yi, .int .i64 yo] 50) := ⟨_, rfl⟩
                  have hEB : Ext wr wB := by rw [hwB]; exact Ext.alloc _ _
                  have b0 : ∀ W, Ext wB W → W.cell? ⟨wr.heap.size, 0, none⟩ = some (.int .i64 p) := by rw [hwB]; exact kept_alloc wr _ _ rfl
                  have b1 : ∀ W, Ext wB W → W.cell? ⟨wr.heap.size, 1, none⟩ = some (.int .i64 q) := by rw [hwB]; exact kept_alloc wr _ _ rfl
                  have b2 : ∀ W, Ext wB W → W.cell? ⟨wr.heap.size, 2, none⟩ = some (.int .i64 yi) := by rw [hwB]; exact kept_alloc wr _ _ rfl
                  have b3 : ∀ W, Ext wB W → W.cell? ⟨wr.heap.size, 3, none⟩ = some (.int .i64 yo) := by rw [hwB]; exact kept_alloc wr _ _ rfl
                  have HWB := Lib.hid hwB; clear hwB
                  have HT2 := Lib.hid (hT.later hEB)
                  clear hT
                  have h6B : Ext wb wB := HT2.out.ext
                  have hsB : Ext wB wB := Ext.refl _
                  have q1 : ∀ W, Ext wB W → W.cell? ⟨g9, p, none⟩ = some (.int .i64 (numN m p)) := fun W hW => HNC.out W (h6B.trans hW) p hp
                  have q2 : ∀ W, Ext wB W → W.cell? ⟨g9, q, none⟩ = some (.int .i64 (numN m q)) := fun W hW => HNC.out W (h6B.trans hW) q hq
                  have hb1 := num_bd (m := m) hp
                  have hb2 := num_bd (m := m) hq
                  replace HNX : Hid (arcsU (tAT m (j + 1)) = if 0 ≤ numN m p ∧ 0 ≤ numN m q then putA LL ⟨numN m p, numN m q, yi, yo⟩ else LL) := HNX
                  generalize numN m p = np at *
                  generalize numN m q = nq at *
                  have hszB := h6B.size
                  by_cases hnp : 0 ≤ np
                  · have hd1 : decide (np ≥ 0) = true := by simpa using hnp
                    have hd2 : decide (0 ≤ np) = true := by simpa using hnp
                    by_cases hnq : 0 ≤ nq
                    · have hd3 : decide (nq ≥ 0) = true := by simpa using hnq
                      have hd4 : decide (0 ≤ nq) = true := by simpa using hnq
                      have HL : Hid (arcsU (tAT m (j + 1)) = putA LL ⟨np, nq, yi, yo⟩) := Lib.hid (by rw [HNX.out, if_pos ⟨hnp, hnq⟩])
                      clear HNX
                      have o1 : ∀ W, Ext wB W → W.cell? ⟨gO, 1, none⟩ = some (.slice a1 LL.length c1) := fun W hW => hW.keep (HT2.out.box.cell (i := 1) rfl)
                      go_upto_region 30 with fail
                      rw [← HWB.out]
                      clear hc0 hc1 hc2 hc3
                      go_wp2_with fail
                      refine wp_region_peek (Ext wB) (fun _ => True) [19] [.look 0, .look 1, .look 2, .look 3, .look 4, .look 5, .look 6, .look 7, .look 8, .look 9, .look 10, .look 11, .look 12, .look 13, .look 14, .look 15, .look 16, .go 17, .look 18, .go 19] (by kernel_rfl) (by kernel_rfl) (by intro c a d v w h; cases d <;> exact h) ?_
                      have hd : Ext wB { wB with drawn := wB.drawn + 1 } := drawn_ext wB
                      have hs : ∀ s : InC (Ext wB), Ext wB s.w := fun s => s.h
                      generalize { wB with drawn := wB.drawn + 1 } = W0 at *
                      iterate 17 (refine wpPeek_look rfl ‹_› (fun K hK => ?_); go_simp; first | (refine hK _ ?_; clear hK K) | (refine ⟨_, fun _ => rfl, hK _ ?_⟩; clear hK K))
                      clear hs b0 b1 b2 b3 q1 q2 o1
                      have HT3 := Lib.hid (HT2.out.later hd)
                      have h60 : Ext wb W0 := h6B.trans hd
                      have hsz0 := h60.size
                      have HPU := Lib.hid (put2_c _ LL ⟨np, nq, yi, yo⟩ W0 _ HT3.out.arcs hsz0 (by omega))
                      generalize putA LL ⟨np, nq, yi, yo⟩ = PA at *
                      refine wpPeek_go rfl rfl (fun K hK => ?_)
                      go_wp2_with fail
                      refine HPU.out.mono ?_; rintro e W7 ⟨v7, rfl, ho7, hx7, _⟩
                      have HT7 := Lib.hid (HT3.out.lay (by omega) hbs hx7 ho7)
                      have hb7 := HT3.out.box.ext hx7
                      have z1 := hb7.cell (i := 1) rfl
                      have f1 := hb7.frozen 1
                      obtain ⟨a7, c7, rfl⟩ := row_open ho7
                      clear hb7 ho7
                      go_wp2_with fail
                      refine ⟨KeepE.of (fun h => h.trans hx7) (fun _ => trivial), ?_⟩
                      have hs : ∀ s : InC (Ext wB), Ext wB s.w := fun s => s.h
                      have hd7 := hd.trans hx7
                      iterate 1 (refine wpPeek_look rfl ‹_› (fun K hK => ?_); go_simp; first | (refine hK _ ?_; clear hK K) | (refine ⟨_, fun _ => rfl, hK _ ?_⟩; clear hK K))
                      clear hs
                      refine wpPeek_go rfl rfl (fun K hK => ?_)
                      go_wp2_with fail
                      refine ⟨⟨.inl (by simp), fun _ => trivial⟩, ?_⟩
                      clear z1 f1
                      refine wpPeek_nil ?_
                      have hE7 := hRb.trans HT7.out.ext
                      go_wp2_with fail
                      go_roundg (gk-1)
                      case measure => omega
                      case rel => exact ⟨j+1, _, by omega, by omega, by go_num, by rw [HL.out]; exact HT7.out⟩
                    · have hd3 : decide (nq ≥ 0) = false := by simpa using hnq
                      have hd4 : decide (0 ≤ nq) = false := by simpa using hnq
                      have HL : Hid (arcsU (tAT m (j + 1)) = LL) := Lib.hid (by rw [HNX.out, if_neg (fun h => hnq h.2)])
                      clear HNX
                      go_upto_region 30 with fail
                      rw [← HWB.out]
                      clear hc0 hc1 hc2 hc3
                      go_wp2_with fail
                      go_roundg (gk-1)
                      case measure => omega
                      case rel => exact ⟨j+1, _, by omega, by omega, by go_num, by rw [HL.out]; exact HT2.out⟩
                  · have hd1 : decide (np ≥ 0) = false := by simpa using hnp
                    have hd2 : decide (0 ≤ np) = false := by simpa using hnp
                    have HL : Hid (arcsU (tAT m (j + 1)) = LL) := Lib.hid (by rw [HNX.out, if_neg (fun h => hnp h.1)])
                    clear HNX
                    go_upto_region 30 with fail
                    rw [← HWB.out]
                    clear hc0 hc1 hc2 hc3
                    go_wp2_with fail
                    go_roundg (gk-1)
                    case measure => omega
                    case rel => exact ⟨j+1, _, by omega, by omega, by go_num, by rw [HL.out]; exact HT2.out⟩
                · have hjm : j = m.a.length := by omega
                  subst hjm
                  have hjI : ¬ (m.a.length : Int) < (m.a.length : Int) := by omega
                  rw [tAT_all] at hT htl htu
                  generalize arcsU (trimA m) = U at *
                  have HT := Lib.hid hT; clear hT
                  go_wp2_with fail
                  go_loopg [14] m.e.length (fun z i wr => ∃ (j : Nat) (v2 : Value), j ≤ m.e.length ∧ m.e.length ≤ j + z ∧ i = .int .i64 j ∧ TurnS wb wr (w.heap.size + 1) gO (c : Nat) (.slice a1 U.length c1) v2 U (tET m j))
                  case atStart => exact ⟨0, _, by omega, by omega, rfl, HT.out⟩
                  case round =>
                    clear HT hEr
                    obtain ⟨j, v2, hj', hjz', rfl, hT⟩ := hrel
                    have hEr : Ext wR wr := hRb.trans hT.ext
                    have hE6 : Ext wb wr := hT.ext
                    have hme9 := end_bd HM.out
                    have hte := tET_len m j
                    obtain ⟨a2, c2, rfl⟩ := row_open hT.ends
                    by_cases hje : j < m.e.length
                    · have hjI : (j : Int) < (m.e.length : Int) := by omega
                      obtain ⟨be, oe, rfl, hc⟩ := HE.out j hje
                      have hcr := hEr.keep hc
                      have hx := HM.out.ends (m.e[j]?.getD 0) (by rw [List.getElem?_eq_getElem hje]; exact List.getElem_mem hje)
                      have HNX := Lib.hid (tET_next hje)
                      generalize m.e[j]?.getD 0 = x at *
                      obtain ⟨s, rfl⟩ : ∃ s : Nat, x = s := ⟨x.toNat, by omega⟩
                      have hsk : s < k := by have := HNT.out; omega
                      have hNs : ∀ W, Ext wb W → W.cell? ⟨g9, s, none⟩ = some (.int .i64 (numN m s)) := fun W hW => HNC.out W hW s hsk
                      have hb1 := num_bd (m := m) hsk
                      replace HNX : Hid (tET m (j + 1) = if 0 ≤ numN m s then tET m j ++ [numN m s] else tET m j) := HNX
                      generalize numN m s = ns at *
                      generalize tET m j = LC at *
                      clear hx
                      have q9 := hNs wr hE6
                      have hNX := Lib.hid hNs
                      clear hNs
                      have HT := Lib.hid hT; clear hT
                      by_cases hns : 0 ≤ ns
                      · have hd1 : decide (ns ≥ 0) = true := by simpa using hns
                        have hd2 : decide (0 ≤ ns) = true := by simpa using hns
                        have HL : Hid (tET m (j + 1) = LC ++ [ns]) := Lib.hid (by rw [HNX.out, if_pos hns])
                        clear HNX
                        go_wp2_with fail
                        clear q9 hcr
                        refine wp_region_peek (KeepO wb gO [.int .i64 (c : Int), .slice a1 U.length c1, .slice a2 LC.length c2]) (fun _ => True) [13] [.look 0, .look 1, .look 2, .look 3, .look 4, .look 5, .look 6, .look 7, .look 8, .look 9, .go 10, .go 11, .go 12, .go 13] (by kernel_rfl) (by kernel_rfl) (by intro c a d v w h; cases d <;> exact h) ?_
                        have HT1 := Lib.hid (HT.out.later (drawn_ext wr))
                        have hK1 : KeepO wb gO [.int .i64 (c : Int), .slice a1 U.length c1, .slice a2 LC.length c2] { wr with drawn := wr.drawn + 1 } := ⟨HT1.out.ext, HT1.out.box⟩
                        have hs : ∀ s : InC (KeepO wb gO [.int .i64 (c : Int), .slice a1 U.length c1, .slice a2 LC.length c2]), Ext wR s.w := fun s => hRb.trans s.h.1
                        have p0 := fun t : InC (KeepO wb gO [.int .i64 (c : Int), .slice a1 U.length c1, .slice a2 LC.length c2]) => (hRb.trans t.h.1).keep hc
                        have p1 := fun t : InC (KeepO wb gO [.int .i64 (c : Int), .slice a1 U.length c1, .slice a2 LC.length c2]) => hNX.out t.w t.h.1
                        have p2 := fun t : InC (KeepO wb gO [.int .i64 (c : Int), .slice a1 U.length c1, .slice a2 LC.length c2]) => t.h.2.cell (i := 2) rfl
                        generalize { wr with drawn := wr.drawn + 1 } = W1 at *
                        iterate 10 (refine wpPeek_look rfl ‹_› (fun K hK => ?_); go_simp; first | (refine hK _ ?_; clear hK K) | (refine ⟨_, fun _ => rfl, hK _ ?_⟩; clear hK K))
                        clear hs p0 p1 p2
                        have hE1' : Ext wb W1 := HT1.out.ext
                        have hszW : wb.heap.size ≤ W1.heap.size := hE1'.size
                        refine wpPeek_go rfl rfl (fun K hK => ?_)
                        go_wp2_with fail
                        refine ⟨KeepE.of (fun h => ⟨h.1.trans (Ext.alloc _ _), h.2.ext (Ext.alloc _ _)⟩) (fun _ => trivial), ?_⟩
                        refine wpPeek_go rfl rfl (fun K hK => ?_)
                        refine wpList_append1G elInts rfl _ _ rfl rfl rfl HT1.out.ends rfl rfl hszW (by omega) (by omega) ?_
                        intro g6 cap6 w7 ho6 hg6 hq6
                        have hb6' : Below wb.heap.size W1 w7 := Below.of_grownBy hg6 HT1.out.ends hszW
                        have ho6' : OInts 3 w7 wb.heap.size (.slice (some ⟨g6, 0, none⟩) (LC.length + 1) cap6) (LC ++ [ns]) := by unfold OInts; rw [ints_append, List.length_append]; simpa [ints] using ho6
                        have HT6 := Lib.hid (HT1.out.pushE (by omega) hbs ho6' hb6' hg6)
                        have HK6 : Hid (KeepO wb gO [.int .i64 (c : Int), .slice a1 U.length c1, .slice a2 LC.length c2] w7) := Lib.hid ⟨hE1'.upto hb6' (Nat.le_refl _), HT1.out.box.keptR (by decide) HT1.out.ends hg6⟩
                        clear ho6 hg6 hq6 hb6' ho6'
                        go_wp2_with fail
                        refine ⟨KeepE.of (fun _ => HK6.out) (fun _ => trivial), ?_⟩
                        refine wpPeek_go rfl rfl (fun K hK => ?_)
                        go_wp2_with fail
                        refine ⟨KeepE.refl, ?_⟩
                        have z2 := HK6.out.2.cell (i := 2) rfl
                        have f2 := HK6.out.2.frozen 2
                        refine wpPeek_go rfl rfl (fun K hK => ?_)
                        go_wp2_with fail
                        refine ⟨⟨.inl (by simp), fun _ => trivial⟩, ?_⟩
                        clear z2 f2
                        refine wpPeek_nil ?_
                        go_wp2_with fail
                        go_roundg (gk-1)
                        case measure => omega
                        case rel => exact ⟨j+1, _, by omega, by omega, by go_num, by rw [HL.out]; exact HT6.out⟩
                      · have hd1 : decide (ns ≥ 0) = false := by simpa using hns
                        have hd2 : decide (0 ≤ ns) = false := by simpa using hns
                        have HL : Hid (tET m (j + 1) = LC) := Lib.hid (by rw [HNX.out, if_neg hns])
                        clear HNX
                        go_wp2_with fail
                        go_roundg (gk-1)
                        case measure => omega
                        case rel => exact ⟨j+1, _, by omega, by omega, by go_num, by rw [HL.out]; exact HT.out⟩
                    · have hjm : j = m.e.length := by omega
                      subst hjm
                      have hjI : ¬ (m.e.length : Int) < (m.e.length : Int) := by omega
                      rw [tET_all] at hT hte
                      generalize trimE m = CE at *
                      have q0 := hT.box.cell (i := 0) rfl
                      have q1 := hT.box.cell (i := 1) rfl
                      have q2 := hT.box.cell (i := 2) rfl
                      have HT := Lib.hid hT; clear hT
                      have hb := HT.out.res
                      have z0 := hb.cell (i := 0) rfl
                      have z1 := hb.cell (i := 1) rfl
                      have z2 := hb.cell (i := 2) rfl
                      have f0 := hb.frozen 0
                      have f1 := hb.frozen 1
                      have f2 := hb.frozen 2
                      have hgw : w.heap.size ≤ w.heap.size + 1 := by omega
                      have HBE := Lib.hid (And.intro (hb.store3 (.int .i64 (c : Int)) (.slice a1 U.length c1) (.slice a2 CE.length c2)) (And.intro (Ext.store3 (hER.trans hEr) hgw (.int .i64 (c : Int)) (.slice a1 U.length c1) (.slice a2 CE.length c2))
                        (HT.out.omac.store3 hb (.int .i64 (c : Int)) (.slice a1 U.length c1) (.slice a2 CE.length c2))))
                      clear hb
                      go_wp2_with fail
                      obtain ⟨hb2, hx2', hM2⟩ := HBE.out
                      clear z0 z1 z2 f0 f1 f2 q0 q1 q2 HBE
                      have d0 := hb2.cell (i := 0) rfl
                      have d1 := hb2.cell (i := 1) rfl
                      have d2 := hb2.cell (i := 2) rfl
                      generalize (((wr.setCell ⟨w.heap.size + 1, 0, none⟩ (.int .i64 (c : Int))).setCell ⟨w.heap.size + 1, 1, none⟩ (.slice a1 U.length c1)).setCell ⟨w.heap.size + 1, 2, none⟩ (.slice a2 CE.length c2)) = w4 at *
                      refine bodyPost_ret (v := .tuple #[.agg #[.int .i64 (c : Int), .slice a1 U.length c1, .slice a2 CE.length c2], .int .i64 0]) (by simp [results, Try.results59, go_sem, d0, d1, d2]) rfl ?_
                      exact RMac2.mk HK.out rfl hM2.mac hx2'
  · have ht0 : trimM m = ⟨0, [], []⟩ := by rw [trimM, if_neg hv]
    rw [ht0]
    have hk : (validM m != 0) = true := by simp [hv]
    generalize validM m = kb at *
    clear hv ht0
    go_enter Try.func59, Try.ntmps59
    go_wp2_with fail
    rw [← HW.out]
    refine HVA.out.mono ?_; rintro e w1 ⟨rfl, hx1⟩
    have hM0 : OMac w1 w1.heap.size (.slice none 0 0) (.slice none 0 0) ⟨0, [], []⟩ := OMac.nil _ _
    have hb := HBX.out.ext hx1
    have z0 := hb.cell (i := 0) rfl
    have z1 := hb.cell (i := 1) rfl
    have z2 := hb.cell (i := 2) rfl
    have f0 := hb.frozen 0
    have f1 := hb.frozen 1
    have f2 := hb.frozen 2
    have HBE := Lib.hid (And.intro (hb.store3 (.int .i64 ((⟨0, [], []⟩ : Mac)).s) (.slice none 0 0) (.slice none 0 0)) (And.intro (Ext.store3 (hER.trans hx1) (show w.heap.size ≤ w.heap.size + 1 by omega) (.int .i64 ((⟨0, [], []⟩ : Mac)).s) (.slice none 0 0) (.slice none 0 0))
      (hM0.store3 hb (.int .i64 ((⟨0, [], []⟩ : Mac)).s) (.slice none 0 0) (.slice none 0 0))))
    clear hb
    go_wp2_with fail
    obtain ⟨hb2, hx2', hM2⟩ := HBE.out
    clear z0 z1 z2 f0 f1 f2 HBE
    have d0 := hb2.cell (i := 0) rfl
    have d1 := hb2.cell (i := 1) rfl
    have d2 := hb2.cell (i := 2) rfl
    generalize (((w1.setCell ⟨w.heap.size + 1, 0, none⟩ (.int .i64 ((⟨0, [], []⟩ : Mac)).s)).setCell ⟨w.heap.size + 1, 1, none⟩ (.slice none 0 0)).setCell ⟨w.heap.size + 1, 2, none⟩ (.slice none 0 0)) = w4 at *
    refine bodyPost_ret (v := .tuple #[.agg #[.int .i64 ((⟨0, [], []⟩ : Mac)).s, .slice none 0 0, .slice none 0 0], .int .i64 (kb)]) (by simp [results, Try.results59, go_sem, d0, d1, d2]) rfl ?_
    exact RMac2.mk rfl rfl hM2.mac hx2'
end Go.Proofs.Ytpbflkbelhlogaa
