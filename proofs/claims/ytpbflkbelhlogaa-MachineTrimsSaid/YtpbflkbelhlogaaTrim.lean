/- Machines: Trim of the program. -/
import Derived.Test.YtpbflkbelhlogaaJoinedRowMachineTrims
import Derived.Test.YtpbflkbelhlogaaShoA
import Derived.Test.YtpbflkbelhlogaaCompA
import Derived.Test.YtpbflkbelhlogaaFree
namespace Go.Proofs.Ytpbflkbelhlogaa
open Go.RowKit Go.Shelf
set_option linter.unusedVariables false
theorem tS_t {l : List Bool} {p q : Nat} {i o : Int} (h : l[q]?.getD false = true) (ht : q < l.length) : l.set q true = tS l ⟨(p : Int), (q : Int), i, o⟩ := by
  have := tS_or (l := l) (a := ⟨(p : Int), (q : Int), i, o⟩) ht
  rw [← this]
  show l.set q true = l.set q (l[q]?.getD false || l[p]?.getD false)
  rw [h]; rfl
theorem tS_f {l : List Bool} {p q : Nat} {i o : Int} (h : l[q]?.getD false = false) (ht : q < l.length) : l.set q (l[p]?.getD false) = tS l ⟨(p : Int), (q : Int), i, o⟩ := by
  have := tS_or (l := l) (a := ⟨(p : Int), (q : Int), i, o⟩) ht
  rw [← this]
  show l.set q (l[p]?.getD false) = l.set q (l[q]?.getD false || l[p]?.getD false)
  rw [h]; rfl
theorem beginB_set {n : Nat} : (List.replicate n false).set 0 true = beginB n := rfl
set_option maxHeartbeats 8000000 in
set_option maxRecDepth 100000 in
theorem Trim_c (av ev : Value) (m : Mac) (w : World) (h : MacR w av ev m) : Calls Try.prog 51 #[.agg #[.int .i64 m.s, av, ev]] w (RMac2 (trimM m) (validM m) w) := by
  obtain ⟨w1_, hw1_⟩ : ∃ W, W = w.alloc (.cells #[.int .i64 m.s, av, ev] 25) := ⟨_, rfl⟩
  obtain ⟨wR, hwR⟩ : ∃ W, W = w1_.alloc (.cells #[.int .i64 0, .slice none 0 0, .slice none 0 0] 25) := ⟨_, rfl⟩
  have hz1_ : w1_.heap.size = w.heap.size + 1 := by rw [hw1_]; simp
  have x1_ : Ext w w1_ := by rw [hw1_]; exact Ext.alloc _ _
  have x2_ : Ext w1_ wR := by rw [hwR]; exact Ext.alloc _ _
  have hER : Ext w wR := x1_.trans x2_
  have kk : ∀ i v, #[Value.int .i64 m.s, av, ev][i]? = some v → ∀ W, Ext wR W → W.cell? ⟨w.heap.size, i, none⟩ = some v := fun i v h W hW => kept_alloc w _ _ h W (by rw [← hw1_]; exact x2_.trans hW)
  have k0 := kk 0 _ rfl
  have k1 := kk 1 _ rfl
  have k2 := kk 2 _ rfl
  have HBX : Hid (Blk wR (w.heap.size + 1) 25 [.int .i64 0, .slice none 0 0, .slice none 0 0]) := Lib.hid (by rw [hwR, ← hz1_]; exact Blk.alloc w1_ _ _)
  have hzR : wR.heap.size = w.heap.size + 2 := by rw [hwR]; simp [hz1_]
  have H0 : Ext wR wR := Ext.refl _
  have HRM := Lib.hid (h.ext hER)
  obtain ⟨aa, ca, rfl, hla, hma, HA⟩ := (h.ext hER).a.open_
  obtain ⟨ae, ce, rfl, hle, hme, HE⟩ := (h.ext hER).e.open_
  have HW := Lib.hid (show wR = (w.alloc (.cells #[.int .i64 m.s, .slice aa m.a.length ca, .slice ae m.e.length ce] 25)).alloc (.cells #[.int .i64 0, .slice none 0 0, .slice none 0 0] 25) by rw [hwR, hw1_])
  clear hwR hw1_ hz1_ x1_ x2_ kk h
  have HVA := Lib.hid (Validate_c _ _ m wR HRM.out)
  by_cases hv : validM m = 0
  · have hM := validM_mac hv
    have HM := Lib.hid hM
    obtain ⟨n, hn⟩ : ∃ n : Nat, m.s = n := ⟨m.s.toNat, by have := hM.s1; omega⟩
    have hn1 : 1 ≤ n := by have := hM.s1; omega
    have hn9 : n ≤ 9 := by have := hM.s2; omega
    have hnt : m.s.toNat = n := by omega
    have HNT := Lib.hid hnt
    have HN := Lib.hid hn
    have HFL : Hid ((farL m).length = n) := Lib.hid (by unfold farL; rw [pRnd_len, far0_len, hnt])
    have HTL : Hid (thL m = thR m.a (beginB n) n) := Lib.hid (by unfold thL; rw [hnt])
    have HMA : Hid (¬ at0 (farL m) 0 < 0 → madeM (cntU m n) (trimA m) (trimE m) = trimM m ∧ madeK (cntU m n) (trimA m) = 0) := Lib.hid (fun h0 => by rw [← hnt]; exact trim_made hM hv h0)
    have HMB : Hid (at0 (farL m) 0 < 0 → trimM m = ⟨1, [], []⟩) := Lib.hid (fun h0 => by rw [trimM, if_pos hv, if_pos h0])
    have HFA : Hid (∀ W, Ext wR W → Calls Try.prog 88 #[.agg #[.int .i64 (n : Int), .slice aa m.a.length ca, .slice ae m.e.length ce]] W (RRow (farL m) W)) := Lib.hid (fun W hW => by rw [← hn]; exact far_c _ _ m W (HRM.out.ext hW) hM)
    rw [hv] at HVA ⊢
    rw [hn] at HVA HW k0
    clear hv hM hnt
    rw [hn]
    clear hn
    go_enter Try.func51, Try.ntmps51
    go_wp2_with fail
    rw [← HW.out]
    refine HVA.out.mono ?_; rintro e w1 ⟨rfl, hx1⟩
    go_wp2_with fail
    refine (HFA.out w1 hx1).mono ?_; rintro e wA ⟨gL, rfl, hbL, hgL, hx2⟩
    replace hx2 := hx1.trans hx2
    rw [HFL.out]
    have hgL2 := Blk.lt hbL
    have hsR := hx2.size
    go_wp2_with (at_make; go_loud (refine wpList_make_blk n elBools rfl rfl _ _ rfl rfl rfl (by omega) (by omega) ?_; intro g w3 hg hblk hx3 hg3; have hbk : BBools w3 g (List.replicate n false) := (by unfold BBools; simpa using hblk); have hbc := hbk.cell (i := 0) (by rw [List.length_replicate]; omega); have hbf := Blk.frozen hbk 0; have HB0 := Lib.hid (hbk.set 0 true); have HX3 := Lib.hid hx3; have hRx := (hx2.trans hx3).setCell (c := g) (by omega) 0 (.bool true); clear hblk hbk))
    rw [beginB_set] at HB0
    have hxA : Ext wA (w3.setCell ⟨g, 0, none⟩ (.bool true)) := HX3.out.setCell hg _ _
    clear hbc hbf hg3
    generalize w3.setCell ⟨g, 0, none⟩ (.bool true) = w3' at *
    go_loopg [33] n (fun z i wr => ∃ r : Nat, r ≤ n ∧ n ≤ r + z ∧ i = .int .i64 r ∧ Ext wA wr ∧ BBools wr g (thR m.a (beginB n) r))
    case atStart => exact ⟨0, by omega, by omega, rfl, hxA, HB0.out⟩
    case round =>
      clear HB0 hxA hx3 HX3
      obtain ⟨r, hr, hrz, rfl, hEr, hbk⟩ := hrel
      obtain ⟨g1, rfl⟩ : ∃ g : Nat, g = gk := ⟨_, rfl⟩
      by_cases hlt2 : r < n
      · have hrI : (r : Int) < (n : Int) := by omega
        have HNX : Hid (thR m.a (beginB n) (r + 1) = thF m.a (thR m.a (beginB n) r) m.a.length) := Lib.hid (thR_next _ _ _)
        have HRL : Hid ((thR m.a (beginB n) r).length = n) := Lib.hid (by rw [thR_len, beginB_len])
        have hb0 : BBools wr g (thF m.a (thR m.a (beginB n) r) 0) := hbk
        generalize thR m.a (beginB n) r = R at *
        obtain ⟨w0, hw0⟩ : ∃ w0, w0 = wr := ⟨_, rfl⟩
        rw [← hw0] at hb0 hEr ⊢
        clear hw0 hbk
        have hRr := hx2.trans hEr
        go_wp2_with fail
        go_loopg [38] m.a.length (fun z i wr => ∃ j : Nat, j ≤ m.a.length ∧ m.a.length ≤ j + z ∧ i = .int .i64 j ∧ Ext wA wr ∧ BBools wr g (thF m.a R j))
        case atStart => exact ⟨0, by omega, by omega, rfl, hEr, hb0⟩
        case round =>
          clear hb0 hEr hRr
          obtain ⟨j, hj, hj2, rfl, hEr, hbb⟩ := hrel
          by_cases hjl : j < m.a.length
          · have hEr2 := hx2.trans hEr
            obtain ⟨ba, oa, rfl, hc0, hc1, hc2, hc3⟩ := HA.out j hjl
            replace hc0 := hEr2.keep hc0
            replace hc1 := hEr2.keep hc1
            replace hc2 := hEr2.keep hc2
            replace hc3 := hEr2.keep hc3
            have hst := HM.out.arc hjl
            have hst1 := thF_next hjl R
            have HST := Lib.hid hst1; clear hst1
            have hlb : (thF m.a R j).length = n := by rw [thF_len]; exact HRL.out
            generalize arcA m.a j = y at *
            generalize thF m.a R j = bb at *
            obtain ⟨yf, yt, yi, yo⟩ := y
            simp only at hc0 hc1 hc2 hc3 hst
            obtain ⟨p, rfl⟩ : ∃ p : Nat, yf = p := ⟨yf.toNat, by omega⟩
            obtain ⟨q, rfl⟩ : ∃ q : Nat, yt = q := ⟨yt.toNat, by omega⟩
            have hp : p < n := by have := HN.out; omega
            have hq : q < n := by have := HN.out; omega
            clear hst
            obtain ⟨wB, hwB⟩ : ∃ wB, wB = wr.alloc (.cells #[.int .i64 (p : Int), .int .i64 (q : Int), .int .i64 yi, .int .i64 yo] 50) := ⟨_, rfl⟩
            have hEB : Ext wr wB := by rw [hwB]; exact Ext.alloc _ _
            have b0 : ∀ W, Ext wB W → W.cell? ⟨wr.heap.size, 0, none⟩ = some (.int .i64 p) := by rw [hwB]; exact kept_alloc wr _ _ rfl
            have b1 : ∀ W, Ext wB W → W.cell? ⟨wr.heap.size, 1, none⟩ = some (.int .i64 q) := by rw [hwB]; exact kept_alloc wr _ _ rfl
            have b2 : ∀ W, Ext wB W → W.cell? ⟨wr.heap.size, 2, none⟩ = some (.int .i64 yi) := by rw [hwB]; exact kept_alloc wr _ _ rfl
            have b3 : ∀ W, Ext wB W → W.cell? ⟨wr.heap.size, 3, none⟩ = some (.int .i64 yo) := by rw [hwB]; exact kept_alloc wr _ _ rfl
            have HWB := Lib.hid hwB; clear hwB
            have hs : ∀ s : Later wB, Ext wB s.w := fun s => s.ext
            have hb1 : BBools wB g bb := Blk.ext hbb hEB
            have hqL : q < bb.length := by omega
            have q1 := fun s : Later wB => s.ext.keep (hb1.cell (i := q) hqL)
            have q2 := fun s : Later wB => s.ext.keep (hb1.cell (i := p) (by omega))
            cases hQ : bb[q]?.getD false
            · have HQ := Lib.hid hQ; clear hQ
              obtain ⟨bp, hbp⟩ : ∃ b, bb[p]?.getD false = b := ⟨_, rfl⟩
              have HSY := Lib.hid (tS_f (p := p) (i := yi) (o := yo) HQ.out hqL)
              rw [HQ.out] at q1
              rw [hbp] at q2 HSY
              clear hbp
              go_wp2_with fail
              rw [← HWB.out]
              clear hc0 hc1 hc2 hc3
              refine wp_region_later_tail 16 (by kernel_rfl) (by kernel_rfl) ?_
              simp only [List.take_succ_cons, List.take_zero, List.drop_succ_cons, List.drop_zero]
              repeat (go_big_quiet_step (fail))
              refine wpQuiet_nil ?_
              intro w6 hw'
              obtain ⟨⟨_, hx6⟩, rfl⟩ := hw'

              have hX6 : Ext wA w6 := hEr.trans (hEB.trans hx6)
              have hb6 : BBools w6 g bb := Blk.ext hb1 hx6
              have hn2 := hb6.cell (i := q) hqL
              have hf2 := Blk.frozen hb6 q
              have HB2 := Lib.hid (hb6.set q bp)
              clear hb6 hb1 hbb hs q1 q2 b0 b1 b2 b3
              go_wp2_with fail
              go_roundg (gk-1)
              case measure => omega
              case rel => exact ⟨j+1, by omega, by omega, by go_num, hX6.setCell (by omega) _ _, by rw [HST.out, ← HSY.out]; exact HB2.out⟩
            · have HQ := Lib.hid hQ; clear hQ
              have HSY := Lib.hid (tS_t (p := p) (i := yi) (o := yo) HQ.out hqL)
              rw [HQ.out] at q1
              go_wp2_with fail
              rw [← HWB.out]
              clear hc0 hc1 hc2 hc3
              refine wp_region_later_tail 16 (by kernel_rfl) (by kernel_rfl) ?_
              simp only [List.take_succ_cons, List.take_zero, List.drop_succ_cons, List.drop_zero]
              repeat (go_big_quiet_step (fail))
              refine wpQuiet_nil ?_
              intro w6 hw'
              obtain ⟨⟨_, hx6⟩, rfl⟩ := hw'

              have hX6 : Ext wA w6 := hEr.trans (hEB.trans hx6)
              have hb6 : BBools w6 g bb := Blk.ext hb1 hx6
              have hn2 := hb6.cell (i := q) hqL
              have hf2 := Blk.frozen hb6 q
              have HB2 := Lib.hid (hb6.set q true)
              clear hb6 hb1 hbb hs q1 q2 b0 b1 b2 b3
              go_wp2_with fail
              go_roundg (gk-1)
              case measure => omega
              case rel => exact ⟨j+1, by omega, by omega, by go_num, hX6.setCell (by omega) _ _, by rw [HST.out, ← HSY.out]; exact HB2.out⟩
          · have HB := Lib.hid hbb
            clear hbb
            have hjm : j = m.a.length := by omega
            subst hjm
            go_wp2_with fail
            go_roundg (g1-1)
            case measure => omega
            case rel => exact ⟨r+1, by omega, by omega, by go_num, hEr, by rw [HNX.out]; exact HB.out⟩
      · have hrn : r = n := by omega
        subst hrn
        rw [← HTL.out] at hbk
        obtain ⟨w4, rfl⟩ : ∃ W : World, W = wr := ⟨_, rfl⟩
        have hR4 := hx2.trans hEr
        have HBT := Lib.hid hbk; clear hbk
        have HBL := Lib.hid (show BInts w4 gL (farL m) from Blk.ext hbL hEr)
        have hl0 := HBL.out.cell (i := 0) (by rw [HFL.out]; omega)
        replace hl0 : w4.cell? ⟨gL, 0, none⟩ = some (.int .i64 (at0 (farL m) 0)) := hl0
        obtain ⟨x0, hx0⟩ : ∃ x, at0 (farL m) 0 = x := ⟨_, rfl⟩
        rw [hx0] at hl0 HMA HMB
        clear hx0
        by_cases hneg : x0 < 0
        · have hd0 : decide (x0 < 0) = true := by simpa using hneg
          have HK := Lib.hid (HMB.out (by omega))
          clear HMA
          have hM0 : OMac w4 w4.heap.size (.slice none 0 0) (.slice none 0 0) ⟨1, [], []⟩ := ⟨World.ownsRow_nil _ _ _ _, OInts.nil _ _ _⟩
          have hb := HBX.out.ext hR4
          have z0 := hb.cell (i := 0) rfl
          have z1 := hb.cell (i := 1) rfl
          have z2 := hb.cell (i := 2) rfl
          have f0 := hb.frozen 0
          have f1 := hb.frozen 1
          have f2 := hb.frozen 2
          have HBE := Lib.hid (And.intro (hb.store3 (.int .i64 ((⟨1, [], []⟩ : Mac)).s) (.slice none 0 0) (.slice none 0 0)) (And.intro (Ext.store3 (hER.trans hR4) (show w.heap.size ≤ w.heap.size + 1 by omega) (.int .i64 ((⟨1, [], []⟩ : Mac)).s) (.slice none 0 0) (.slice none 0 0))
            (hM0.store3 hb (.int .i64 ((⟨1, [], []⟩ : Mac)).s) (.slice none 0 0) (.slice none 0 0))))
          clear hb
          go_wp2_with fail
          obtain ⟨hb2, hx2', hM2⟩ := HBE.out
          clear z0 z1 z2 f0 f1 f2 HBE
          have d0 := hb2.cell (i := 0) rfl
          have d1 := hb2.cell (i := 1) rfl
          have d2 := hb2.cell (i := 2) rfl
          generalize (((w4.setCell ⟨w.heap.size + 1, 0, none⟩ (.int .i64 ((⟨1, [], []⟩ : Mac)).s)).setCell ⟨w.heap.size + 1, 1, none⟩ (.slice none 0 0)).setCell ⟨w.heap.size + 1, 2, none⟩ (.slice none 0 0)) = w4 at *
          refine bodyPost_ret (v := .tuple #[.agg #[.int .i64 ((⟨1, [], []⟩ : Mac)).s, .slice none 0 0, .slice none 0 0], .int .i64 (0)]) (by simp [results, Try.results51, go_sem, d0, d1, d2]) rfl ?_
          exact RMac2.mk HK.out rfl hM2.mac hx2'
        · have hd0 : decide (x0 < 0) = false := by simpa using hneg
          have HK := Lib.hid (HMA.out (by omega))
          clear HMA HMB hneg
          go_wp2_with (at_make; refine wpList_make_blk r elInts rfl rfl _ _ rfl rfl rfl (by omega) (by omega) ?_; intro g9 w5 hg9 hblk hx5 hg5; have HB9 : Hid (BInts w5 g9 (numsL m 0)) := Lib.hid (by rw [numsL_zero, HNT.out]; unfold BInts; simpa using hblk); have hR5 := hR4.trans hx5; clear hblk)
          go_loopg [70, 10] r (fun z i v wr => ∃ k : Nat, k ≤ r ∧ r ≤ k + z ∧ i = .int .i64 k ∧ v = .int .i64 (cntU m k : Nat) ∧ Ext w4 wr ∧ BInts wr g9 (numsL m k))
          case atStart => exact ⟨0, by omega, by omega, rfl, rfl, hx5, HB9.out⟩
          case round =>
            clear HB9 hl0 hd0
            obtain ⟨k, hk, hkz, rfl, rfl, hEk, hbn⟩ := hrel
            have hRk := hR4.trans hEk
            by_cases hlk : k < r
            · have hkI : (k : Int) < (r : Int) := by omega
              have hNl : k < (numsL m k).length := by rw [numsL_len m (by rw [HNT.out]; omega), HNT.out]; exact hlk
              have hnc := hbn.cell hNl
              have hnf := Blk.frozen hbn k
              have HS1 := Lib.hid (And.intro (hEk.setCell hg9 k (.int .i64 (-1))) (hbn.set k (-1)))
              have HUY : Hid (useB m k = true → ((numsL m k).set k (-1)).set k (cntU m k : Int) = numsL m (k + 1) ∧ cntU m (k + 1) = cntU m k + 1) := Lib.hid (fun h => nums_use (by rw [HNT.out]; exact hlk) h)
              have HUN : Hid (useB m k = false → (numsL m k).set k (-1) = numsL m (k + 1) ∧ cntU m (k + 1) = cntU m k) := Lib.hid (fun h => nums_not (by rw [HNT.out]; exact hlk) h)
              have HUP := Lib.hid (use_parts m k)
              have hcl := cntU_le m k
              have HNL : Hid (k < ((numsL m k).set k (-1)).length) := Lib.hid (by rw [List.length_set]; exact hNl)
              clear hbn hNl
              generalize numsL m k = NL at *
              generalize cntU m k = c at *
              go_upto_region 23 with fail
              clear hnc hnf
              generalize wr.setCell ⟨g9, k, none⟩ (.int .i64 (-1)) = wS at *
              obtain ⟨hES, hbS⟩ := HS1.out
              have hcT := hES.keep (HBT.out.cell (i := k) (by rw [thL_len, HNT.out]; exact hlk))
              have hcL := hES.keep (HBL.out.cell (i := k) (by rw [HFL.out]; exact hlk))
              replace hcT : wS.cell? ⟨g, k, none⟩ = some (.bool (getB (thL m) k)) := hcT
              replace hcL : wS.cell? ⟨gL, k, none⟩ = some (.int .i64 (at0 (farL m) k)) := hcL
              generalize getB (thL m) k = bt at *
              generalize at0 (farL m) k = xl at *
              have hnc := hbS.cell (i := k) HNL.out
              have hnf := Blk.frozen hbS k
              have HS2 := Lib.hid (And.intro (hES.setCell hg9 k (.int .i64 (c : Int))) (hbS.set k (c : Int)))
              have HSS := Lib.hid (And.intro hES hbS)
              clear HS1 hbS hES
              have hwc : IntKind.i64.wrap ((c : Int) + 1) = (c : Int) + 1 := IntWalk.i64_in _ (by omega)
              cases bt
              · have HU := Lib.hid (HUN.out (by rw [HUP.out]; rfl))
                clear HUY HUN HUP
                go_wp2_with fail
                go_roundg (gk-1)
                case measure => omega
                case rel => exact ⟨k+1, by omega, by omega, by go_num, by rw [HU.out.2], HSS.out.1, by rw [← HU.out.1]; exact HSS.out.2⟩
              · by_cases hxl : 0 ≤ xl
                · have hd1 : decide (xl ≥ 0) = true := by simpa using hxl
                  have hd2 : decide (0 ≤ xl) = true := by simpa using hxl
                  have HU := Lib.hid (HUY.out (by rw [HUP.out, hd2]; rfl))
                  clear HUY HUN HUP
                  go_wp2_with fail
                  go_roundg (gk-1)
                  case measure => omega
                  case rel => exact ⟨k+1, by omega, by omega, by go_num, by rw [HU.out.2]; go_num, HS2.out.1, by rw [← HU.out.1]; exact HS2.out.2⟩
                · have hd1 : decide (xl ≥ 0) = false := by simpa using hxl
                  have hd2 : decide (0 ≤ xl) = false := by simpa using hxl
                  have HU := Lib.hid (HUN.out (by rw [HUP.out, hd2]; rfl))
                  clear HUY HUN HUP
                  go_wp2_with fail
                  go_roundg (gk-1)
                  case measure => omega
                  case rel => exact ⟨k+1, by omega, by omega, by go_num, by rw [HU.out.2], HSS.out.1, by rw [← HU.out.1]; exact HSS.out.2⟩
            · have hkr : k = r := by omega
              subst hkr
              obtain ⟨w6, rfl⟩ : ∃ W : World, W = wr := ⟨_, rfl⟩
              have HNC : Hid (∀ W, Ext w6 W → ∀ s, s < k → W.cell? ⟨g9, s, none⟩ = some (.int .i64 (numN m s))) := Lib.hid (fun W hW s hs => by
                have h1 := hW.keep (hbn.cell (i := s) (by rw [numsL_len m (by rw [HNT.out]; omega), HNT.out]; exact hs))
                have h2 := numsL_at m (s := s) (by rw [HNT.out]; exact hs)
                rw [HNT.out] at h2
                rw [← h2]; exact h1)
              clear hbn
              have H6 : Ext w6 w6 := Ext.refl _
              have hcU := cntU_le m k
              go_wp2_with fail
              go_loopg [97, 12] m.a.length (fun z i v wr => ∃ (j : Nat) (t12 : Value), j ≤ m.a.length ∧ m.a.length ≤ j + z ∧ i = .int .i64 j ∧ t12 = v ∧ Ext w6 wr ∧ OArcs wr w6.heap.size t12 (tAT m j))
              case atStart => exact ⟨0, _, by omega, by omega, rfl, rfl, Ext.refl _, World.ownsRow_nil _ _ _ _⟩
              case round =>
                obtain ⟨j, t12, hj, hjz, rfl, rfl, hEr', ho⟩ := hrel
                have hEr : Ext wR wr := hRk.trans hEr'
                have HO := Lib.hid ho
                obtain ⟨a12, c12, rfl⟩ := row_open ho
                clear ho
                have hma60 := HM.out.a
                have htl := tAT_len m j
                by_cases hjl : j < m.a.length
                · obtain ⟨ba, oa, rfl, hc0, hc1, hc2, hc3⟩ := HA.out j hjl
                  replace hc0 := hEr.keep hc0
                  replace hc1 := hEr.keep hc1
                  replace hc2 := hEr.keep hc2
                  replace hc3 := hEr.keep hc3
                  have hst := HM.out.arc hjl
                  have HNX := Lib.hid (tAT_next hjl)
                  generalize arcA m.a j = y at *
                  generalize tAT m j = LL at *
                  obtain ⟨yf, yt, yi, yo⟩ := y
                  simp only at hc0 hc1 hc2 hc3 hst
                  obtain ⟨p, rfl⟩ : ∃ p : Nat, yf = p := ⟨yf.toNat, by omega⟩
                  obtain ⟨q, rfl⟩ : ∃ q : Nat, yt = q := ⟨yt.toNat, by omega⟩
                  have hp : p < k := by have := HN.out; omega
                  have hq : q < k := by have := HN.out; omega
                  clear hst
                  obtain ⟨wB, hwB⟩ : ∃ wB, wB = wr.alloc (.cells #[.int .i64 (p : Int), .int .i64 (q : Int), .int .i64 yi, .int .i64 yo] 50) := ⟨_, rfl⟩
                  have hEB : Ext wr wB := by rw [hwB]; exact Ext.alloc _ _
                  have b0 : ∀ W, Ext wB W → W.cell? ⟨wr.heap.size, 0, none⟩ = some (.int .i64 p) := by rw [hwB]; exact kept_alloc wr _ _ rfl
                  have b1 : ∀ W, Ext wB W → W.cell? ⟨wr.heap.size, 1, none⟩ = some (.int .i64 q) := by rw [hwB]; exact kept_alloc wr _ _ rfl
                  have b2 : ∀ W, Ext wB W → W.cell? ⟨wr.heap.size, 2, none⟩ = some (.int .i64 yi) := by rw [hwB]; exact kept_alloc wr _ _ rfl
                  have b3 : ∀ W, Ext wB W → W.cell? ⟨wr.heap.size, 3, none⟩ = some (.int .i64 yo) := by rw [hwB]; exact kept_alloc wr _ _ rfl
                  have HWB := Lib.hid hwB; clear hwB
                  have HO2 := Lib.hid (HO.out.ext hEB)
                  have h6B : Ext w6 wB := hEr'.trans hEB
                  have hsB : Ext wB wB := Ext.refl _
                  have q1 : ∀ W, Ext wB W → W.cell? ⟨g9, p, none⟩ = some (.int .i64 (numN m p)) := fun W hW => HNC.out W (h6B.trans hW) p hp
                  have q2 : ∀ W, Ext wB W → W.cell? ⟨g9, q, none⟩ = some (.int .i64 (numN m q)) := fun W hW => HNC.out W (h6B.trans hW) q hq
                  have hb1 := num_bd (m := m) hp
                  have hb2 := num_bd (m := m) hq
                  replace HNX : Hid (tAT m (j + 1) = if 0 ≤ numN m p ∧ 0 ≤ numN m q then LL ++ [⟨numN m p, numN m q, yi, yo⟩] else LL) := HNX
                  generalize numN m p = np at *
                  generalize numN m q = nq at *
                  have hszB := h6B.size
                  by_cases hnp : 0 ≤ np
                  · have hd1 : decide (np ≥ 0) = true := by simpa using hnp
                    have hd2 : decide (0 ≤ np) = true := by simpa using hnp
                    by_cases hnq : 0 ≤ nq
                    · have hd3 : decide (nq ≥ 0) = true := by simpa using hnq
                      have hd4 : decide (0 ≤ nq) = true := by simpa using hnq
                      have HL : Hid (tAT m (j + 1) = LL ++ [⟨np, nq, yi, yo⟩]) := Lib.hid (by rw [HNX.out, if_pos ⟨hnp, hnq⟩])
                      clear HNX
                      go_upto_region 31 with fail
                      rw [← HWB.out]
                      clear hc0 hc1 hc2 hc3
                      go_wp2_with fail
                      refine wp_region_peek (Ext wB) (fun _ => True) [17] [.look 0, .look 1, .look 2, .look 3, .look 4, .look 5, .look 6, .look 7, .look 8, .look 9, .look 10, .look 11, .look 12, .look 13, .look 14, .look 15, .go 16, .go 17, .go 18] (by kernel_rfl) (by kernel_rfl) (by intro c a d v w h; cases d <;> exact h) ?_
                      have hd : Ext wB { wB with drawn := wB.drawn + 1 } := drawn_ext wB
                      have hs : ∀ s : InC (Ext wB), Ext wB s.w := fun s => s.h
                      generalize { wB with drawn := wB.drawn + 1 } = W0 at *
                      iterate 16 (refine wpPeek_look rfl ‹_› (fun K hK => ?_); go_simp; first | (refine hK _ ?_; clear hK K) | (refine ⟨_, fun _ => rfl, hK _ ?_⟩; clear hK K))
                      clear hs b0 b1 b2 b3 q1 q2
                      have HO3 := Lib.hid (HO2.out.ext hd)
                      have h60 : Ext w6 W0 := h6B.trans hd
                      have hsz0 := h60.size
                      refine wpPeek_go rfl rfl (fun K hK => ?_)
                      go_wp2_with fail
                      refine ⟨KeepE.of (fun h => h.trans (Ext.alloc _ _)) (fun _ => trivial), ?_⟩
                      refine wpPeek_go rfl rfl (fun K hK => ?_)
                      refine wpList_appendArc elArc rfl (.tmp 115) (.tmp 131) rfl rfl rfl HO3.out rfl hsz0 (by omega) ?_; intro v6 w7 ho6 hb6 hg6 hq6
                      go_wp2_with fail
                      refine ⟨⟨.inl (by simp), fun _ => trivial⟩, ?_⟩
                      refine wpPeek_go rfl rfl (fun K hK => ?_)
                      go_wp2_with fail
                      refine ⟨KeepE.refl, ?_⟩
                      refine wpPeek_nil ?_
                      go_wp2_with fail
                      go_roundg (gk-1)
                      case measure => omega
                      case rel => exact ⟨j+1, _, by omega, by omega, by go_num, rfl, h60.upto hb6 (Nat.le_refl _), by rw [HL.out]; exact ho6⟩
                    · have hd3 : decide (nq ≥ 0) = false := by simpa using hnq
                      have hd4 : decide (0 ≤ nq) = false := by simpa using hnq
                      have HL : Hid (tAT m (j + 1) = LL) := Lib.hid (by rw [HNX.out, if_neg (fun h => hnq h.2)])
                      clear HNX
                      go_upto_region 31 with fail
                      rw [← HWB.out]
                      clear hc0 hc1 hc2 hc3
                      go_wp2_with fail
                      go_roundg (gk-1)
                      case measure => omega
                      case rel => exact ⟨j+1, _, by omega, by omega, by go_num, rfl, h6B, by rw [HL.out]; exact HO2.out⟩
                  · have hd1 : decide (np ≥ 0) = false := by simpa using hnp
                    have hd2 : decide (0 ≤ np) = false := by simpa using hnp
                    have HL : Hid (tAT m (j + 1) = LL) := Lib.hid (by rw [HNX.out, if_neg (fun h => hnp h.1)])
                    clear HNX
                    go_upto_region 31 with fail
                    rw [← HWB.out]
                    clear hc0 hc1 hc2 hc3
                    go_wp2_with fail
                    go_roundg (gk-1)
                    case measure => omega
                    case rel => exact ⟨j+1, _, by omega, by omega, by go_num, rfl, h6B, by rw [HL.out]; exact HO2.out⟩
                · have hjm : j = m.a.length := by omega
                  subst hjm
                  rw [tAT_all] at HO htl ⊢
                  generalize trimA m = TA at *
                  obtain ⟨w7, rfl⟩ : ∃ W : World, W = wr := ⟨_, rfl⟩
                  have hsz7 : w6.heap.size ≤ w7.heap.size := hEr'.size
                  go_wp2_with fail
                  go_loopg [137, 15] m.e.length (fun z i v wr => ∃ (j : Nat) (t15 : Value), j ≤ m.e.length ∧ m.e.length ≤ j + z ∧ i = .int .i64 j ∧ t15 = v ∧ Ext w7 wr ∧ OInts 3 wr w7.heap.size t15 (tET m j))
                  case atStart => exact ⟨0, _, by omega, by omega, rfl, rfl, Ext.refl _, OInts.nil _ _ _⟩
                  case round =>
                    obtain ⟨j, t15, hj', hjz', rfl, rfl, hE7, ho⟩ := hrel
                    have hEw : Ext wR wr := hEr.trans hE7
                    have hE6 : Ext w6 wr := hEr'.trans hE7
                    have HOE := Lib.hid ho
                    obtain ⟨a15, c15, rfl⟩ := row_open ho
                    clear ho
                    have hme9 := end_bd HM.out
                    have hte := tET_len m j
                    by_cases hje : j < m.e.length
                    · obtain ⟨be, oe, rfl, hc⟩ := HE.out j hje
                      replace hc := hEw.keep hc
                      have hx := HM.out.ends (m.e[j]?.getD 0) (by rw [List.getElem?_eq_getElem hje]; exact List.getElem_mem hje)
                      have HNX := Lib.hid (tET_next hje)
                      generalize m.e[j]?.getD 0 = x at *
                      obtain ⟨s, rfl⟩ : ∃ s : Nat, x = s := ⟨x.toNat, by omega⟩
                      have hsk : s < k := by have := HNT.out; omega
                      have q1 := HNC.out wr hE6 s hsk
                      have hb1 := num_bd (m := m) hsk
                      replace HNX : Hid (tET m (j + 1) = if 0 ≤ numN m s then tET m j ++ [numN m s] else tET m j) := HNX
                      generalize numN m s = ns at *
                      generalize tET m j = LE at *
                      clear hx
                      have hszk : w7.heap.size ≤ wr.heap.size := hE7.size
                      by_cases hns : 0 ≤ ns
                      · have hd1 : decide (ns ≥ 0) = true := by simpa using hns
                        have hd2 : decide (0 ≤ ns) = true := by simpa using hns
                        have HL : Hid (tET m (j + 1) = LE ++ [ns]) := Lib.hid (by rw [HNX.out, if_pos hns])
                        clear HNX
                        go_wp2_with (at_builtin; refine wpList_appendInt elInts rfl _ _ rfl rfl rfl HOE.out rfl hszk (by omega) ?_; intro v6 w8 ho6 hb6)
                        go_roundg (gk-1)
                        case measure => omega
                        case rel => exact ⟨j+1, _, by omega, by omega, by go_num, rfl, hE7.upto hb6 (Nat.le_refl _), by rw [HL.out]; exact ho6⟩
                      · have hd1 : decide (ns ≥ 0) = false := by simpa using hns
                        have hd2 : decide (0 ≤ ns) = false := by simpa using hns
                        have HL : Hid (tET m (j + 1) = LE) := Lib.hid (by rw [HNX.out, if_neg hns])
                        clear HNX
                        go_wp2_with fail
                        go_roundg (gk-1)
                        case measure => omega
                        case rel => exact ⟨j+1, _, by omega, by omega, by go_num, rfl, hE7, by rw [HL.out]; exact HOE.out⟩
                    · have hjm : j = m.e.length := by omega
                      subst hjm
                      rw [tET_all] at HOE hte ⊢
                      have HMD := Lib.hid (made_c (cntU m k) _ _ TA (trimE m) w6 wr hE6 (HO.out.ext hE7) (HOE.out.low hsz7) (by omega))
                      rw [HK.out.1, HK.out.2] at HMD
                      generalize trimE m = CE at *
                      generalize trimM m = MM at *
                      generalize cntU m k = c at *
                      go_wp2_with fail
                      refine HMD.out.mono ?_; rintro e w9 ⟨av7, ev7, rfl, hM7, hx7⟩
                      obtain ⟨⟨a1, c1, rfl⟩, a2, c2, rfl⟩ := hM7.open_
                      have hX7 := hRk.trans hx7
                      have hb := HBX.out.ext hX7
                      have z0 := hb.cell (i := 0) rfl
                      have z1 := hb.cell (i := 1) rfl
                      have z2 := hb.cell (i := 2) rfl
                      have f0 := hb.frozen 0
                      have f1 := hb.frozen 1
                      have f2 := hb.frozen 2
                      have HBE := Lib.hid (And.intro (hb.store3 (.int .i64 (MM).s) (.slice a1 MM.a.length c1) (.slice a2 MM.e.length c2)) (And.intro (Ext.store3 (hER.trans hX7) (show w.heap.size ≤ w.heap.size + 1 by omega) (.int .i64 (MM).s) (.slice a1 MM.a.length c1) (.slice a2 MM.e.length c2))
                        (hM7.store3 hb (.int .i64 (MM).s) (.slice a1 MM.a.length c1) (.slice a2 MM.e.length c2))))
                      clear hb
                      go_wp2_with fail
                      obtain ⟨hb2, hx2', hM2⟩ := HBE.out
                      clear z0 z1 z2 f0 f1 f2 HBE
                      have d0 := hb2.cell (i := 0) rfl
                      have d1 := hb2.cell (i := 1) rfl
                      have d2 := hb2.cell (i := 2) rfl
                      generalize (((w9.setCell ⟨w.heap.size + 1, 0, none⟩ (.int .i64 (MM).s)).setCell ⟨w.heap.size + 1, 1, none⟩ (.slice a1 MM.a.length c1)).setCell ⟨w.heap.size + 1, 2, none⟩ (.slice a2 MM.e.length c2)) = w4 at *
                      refine bodyPost_ret (v := .tuple #[.agg #[.int .i64 (MM).s, .slice a1 MM.a.length c1, .slice a2 MM.e.length c2], .int .i64 (0)]) (by simp [results, Try.results51, go_sem, d0, d1, d2]) rfl ?_
                      exact RMac2.mk rfl rfl hM2.mac hx2'
  · have ht0 : trimM m = ⟨0, [], []⟩ := by rw [trimM, if_neg hv]
    rw [ht0]
    have hk : (validM m != 0) = true := by simp [hv]
    generalize validM m = kb at *
    clear hv ht0
    go_enter Try.func51, Try.ntmps51
    go_wp2_with fail
    rw [← HW.out]
    refine HVA.out.mono ?_; rintro e w1 ⟨rfl, hx1⟩
    have hM0 : OMac w1 w1.heap.size (.slice none 0 0) (.slice none 0 0) ⟨0, [], []⟩ := OMac.nil _ _
    have hb := HBX.out.ext hx1
    have z0 := hb.cell (i := 0) rfl
    have z1 := hb.cell (i := 1) rfl
    have z2 := hb.cell (i := 2) rfl
    have f0 := hb.frozen 0
    have f1 := hb.frozen 1
    have f2 := hb.frozen 2
    have HBE := Lib.hid (And.intro (hb.store3 (.int .i64 ((⟨0, [], []⟩ : Mac)).s) (.slice none 0 0) (.slice none 0 0)) (And.intro (Ext.store3 (hER.trans hx1) (show w.heap.size ≤ w.heap.size + 1 by omega) (.int .i64 ((⟨0, [], []⟩ : Mac)).s) (.slice none 0 0) (.slice none 0 0))
      (hM0.store3 hb (.int .i64 ((⟨0, [], []⟩ : Mac)).s) (.slice none 0 0) (.slice none 0 0))))
    clear hb
    go_wp2_with fail
    obtain ⟨hb2, hx2', hM2⟩ := HBE.out
    clear z0 z1 z2 f0 f1 f2 HBE
    have d0 := hb2.cell (i := 0) rfl
    have d1 := hb2.cell (i := 1) rfl
    have d2 := hb2.cell (i := 2) rfl
    generalize (((w1.setCell ⟨w.heap.size + 1, 0, none⟩ (.int .i64 ((⟨0, [], []⟩ : Mac)).s)).setCell ⟨w.heap.size + 1, 1, none⟩ (.slice none 0 0)).setCell ⟨w.heap.size + 1, 2, none⟩ (.slice none 0 0)) = w4 at *
    refine bodyPost_ret (v := .tuple #[.agg #[.int .i64 ((⟨0, [], []⟩ : Mac)).s, .slice none 0 0, .slice none 0 0], .int .i64 (kb)]) (by simp [results, Try.results51, go_sem, d0, d1, d2]) rfl ?_
    exact RMac2.mk rfl rfl hM2.mac hx2'
end Go.Proofs.Ytpbflkbelhlogaa
