/- Machines: what a shortest run reads and writes, of the reference. -/
import Derived.Test.YtodhmkbkcjpnkaaShoS
import Derived.Test.YtodhmkbkcjpnkaaShoR
import Derived.Test.YtodhmkbkcjpnkaaMacE
namespace Go.Proofs.Ytodhmkbkcjpnkaa
open Go.RowKit Go.Shelf
set_option linter.unusedVariables false
def adB : List Bool → Arc → List Bool := fun l a => l.set a.t.toNat true
theorem adB_sel {c : Arc → Bool} {key : Arc → Int} (n : Nat) (ar : List Arc) : selTo c key adB (List.replicate n false) ar = (bestOf c key ar, onsB n ar (fun a => c a && key a == bestOf c key ar) Arc.t) := by
  rw [selTo_is]; rfl
theorem adB_len {c : Arc → Bool} {key : Arc → Int} (n : Nat) (ar : List Arc) : (selTo c key adB (List.replicate n false) ar).2.length = n := by rw [adB_sel]; exact onsB_len _ _ _ _
theorem nextR_len (m : Mac) (left : List Int) (r : Int) (S : List Bool) : (nextR m left r S).length = m.s.toNat := onsB_len _ _ _ _
theorem nextW_len (m : Mac) (s : Int) (good S : List Bool) : (nextW m s good S).length = m.s.toNat := onsB_len _ _ _ _
theorem getB_nat (l : List Bool) (i : Nat) : getB l (i : Int) = l[i]?.getD false := by unfold getB; rw [Int.toNat_natCast]

set_option maxHeartbeats 8000000 in
set_option maxRecDepth 100000 in
theorem rShortest_c (av ev : Value) (m : Mac) (w : World) (h : MacR w av ev m) : Calls Try.prog 50 #[.agg #[.int .i64 m.s, av, ev]] w (RSho m w) := by
  obtain ⟨wA, hwA⟩ : ∃ wA, wA = w.alloc (.cells #[.int .i64 m.s, av, ev] 25) := ⟨_, rfl⟩
  have hE0 : Ext w wA := by rw [hwA]; exact Ext.alloc _ _
  have k0 : ∀ W, Ext wA W → W.cell? ⟨w.heap.size, 0, none⟩ = some (.int .i64 m.s) := by rw [hwA]; exact kept_alloc w _ _ rfl
  have k1 : ∀ W, Ext wA W → W.cell? ⟨w.heap.size, 1, none⟩ = some av := by rw [hwA]; exact kept_alloc w _ _ rfl
  have k2 : ∀ W, Ext wA W → W.cell? ⟨w.heap.size, 2, none⟩ = some ev := by rw [hwA]; exact kept_alloc w _ _ rfl
  have H0 : Ext wA wA := Ext.refl _
  have hzA : wA.heap.size = w.heap.size + 1 := by rw [hwA]; simp
  have HR := Lib.hid (h.ext hE0)
  obtain ⟨aa, ca, rfl, hla, hma, HA⟩ := (h.ext hE0).a.open_
  obtain ⟨ae, ce, rfl, hle, hme, HE⟩ := (h.ext hE0).e.open_
  have HV := Lib.hid (rValidate_c _ _ m wA HR.out)
  by_cases hv : validM m = 0
  · have HM := Lib.hid (validM_mac hv)
    have HVZ := Lib.hid hv
    rw [hv] at HV
    clear hv
    have HFC := Lib.hid (fun W (hW : Ext wA W) => rfar_c _ _ m W (HR.out.ext hW) HM.out)
    have HMI := Lib.hid HM.out.in_
    obtain ⟨n, hn⟩ : ∃ n : Nat, m.s.toNat = n := ⟨_, rfl⟩
    have hn1 : 1 ≤ n := by have := HM.out.s1; omega
    have hn9 : n ≤ 9 := by have := HM.out.s2; omega
    have HLL0 : Hid ((farL m).length = n) := Lib.hid (by unfold farL; rw [pRnd_len, far0_len, hn])
    have hms : m.s = (n : Int) := by have := HM.out.s1; omega
    have HN := Lib.hid hms
    rw [hn] at HMI
    have HND := Lib.hid hn; clear hn
    have HCAN := Lib.hid (fun W (hW : Ext wA W) uv u (hu : Ints W uv u) (hul : u.length ≤ 1000) => rcan_c _ _ uv m n u W (HR.out.ext hW) HMI.out hu hul)
    have HSB : Hid (shoB m = decide (0 ≤ at0 (farL m) 0)) := Lib.hid (by unfold shoB; rw [decide_eq_true HVZ.out, Bool.true_and]; rfl)
    have HDB := Lib.hid (shoD_bd HM.out)
    rw [hms] at k0 HV HFC HCAN hwA ⊢
    clear hms
    have HW := Lib.hid hwA; clear hwA h
    go_enter Try.func50, Try.ntmps50
    go_wp2_with fail
    rw [← HW.out]
    refine HV.out.mono ?_; rintro e w1 ⟨rfl, hx1⟩
    go_wp2_with fail
    refine (HFC.out w1 hx1).mono ?_; rintro e w2 ⟨g, rfl, hbk, hg, hx2⟩
    rw [HLL0.out]
    have hE2 : Ext wA w2 := hx1.trans hx2
    have q0 : w2.cell? ⟨g, 0, none⟩ = some (.int .i64 (at0 (farL m) 0)) := hbk.cell (i := 0) (by rw [HLL0.out]; omega)
    have HLF := Lib.hid hbk
    clear hbk
    have hdb : -1 ≤ at0 (farL m) 0 ∧ at0 (farL m) 0 < 9 := HDB.out
    generalize hd0 : at0 (farL m) 0 = d at *
    have HD0 := Lib.hid hd0; clear hd0
    by_cases hd : d < 0
    · have hdd : decide (d < 0) = true := by simpa using hd
      have HSF : Hid (shoB m = false) := Lib.hid (by rw [HSB.out]; simp; omega)
      clear HSB hdb hd
      go_wp2_with fail
      ((try simp only [Exit.inBlock, Exit.then]); refine bodyPost_ret (results_tmp4 rfl _ _ _) rfl ?_)
      exact RSho.bad HVZ.out HSF.out rfl (hE0.trans hE2)
    · have hdd : decide (d < 0) = false := by simpa using hd
      have HST0 : Hid (shoB m = true) := Lib.hid (by rw [HSB.out]; simp; omega)
      obtain ⟨r0, rfl⟩ : ∃ r : Nat, d = r := ⟨d.toNat, by omega⟩
      have hr09 : r0 ≤ 9 := by omega
      have HSI : Hid (readGo m (farL m) r0 (beginB n) = shoIn m) := Lib.hid (by unfold shoIn shoD; rw [HD0.out, HND.out]; rfl)
      have HLL := Lib.hid HLL0.out
      have hw0 : IntKind.i64.wrap ((r0 : Int) - 1) = (r0 : Int) - 1 := IntWalk.i64_in _ (by omega)
      have HBG : Hid (∀ (W : World) (g : Nat), Blk W g 4 (List.replicate n (.bool false)) → BBools (W.setCell ⟨g, 0, none⟩ (.bool true)) g (beginB n)) := Lib.hid (fun W g h => by have := Blk.set h 0 (.bool true); unfold BBools; simpa [beginB, List.map_set] using this)
      clear HLL0 HSB hdb hd HD0 HDB
      generalize farL m = left at *
      go_wp2_with (at_make; refine wpList_make_blk n elBools rfl rfl _ _ rfl rfl rfl (by omega) (by omega) ?_; intro g3 w3 hg3 hblk3 hx3 hl3; have z1 := Blk.cell (i := 0) (v := .bool false) hblk3 (by rw [List.getElem?_replicate, if_pos (by omega)]); have z2 := Blk.frozen hblk3 0; have hX3 := hx3.setCell hg3 0 (.bool true); have q1 := hX3.keep q0)
      have hbb3 := HBG.out w3 g3 hblk3
      clear z1 z2 hblk3 hx3 hl3 q0
      go_loopg [10, 8, 9] r0 (fun z i v8 v9 wr => ∃ (r : Nat) (t8 t9 : Value) (ga : Nat) (L : List Int) (S : List Bool), r ≤ z ∧ r ≤ 9 ∧ i = .int .i64 ((r : Int) - 1) ∧ t8 = v8 ∧ t9 = v9 ∧ t9 = .slice (some ⟨ga, 0, none⟩) n n ∧ Ext w2 wr ∧ OInts 3 wr w2.heap.size t8 L ∧ L.length + r ≤ 9 ∧ BBools wr ga S ∧ Hid (S.length = n ∧ L ++ readGo m left r S = shoIn m))
      case atStart => exact ⟨r0, _, _, g3, [], beginB n, by omega, by omega, rfl, rfl, rfl, rfl, hX3, OInts.nil _ _ _, by simp; omega, hbb3, Lib.hid ⟨beginB_len n, HSI.out⟩⟩
      case round =>
        clear hX3 hbb3 q1 hg3
        obtain ⟨r, t8, t9, ga, L, S, hrz, hr9, rfl, rfl, rfl, rfl, hXW, ho8, hL9, hbA, HGO⟩ := hrel
        obtain ⟨g1, rfl⟩ : ∃ g : Nat, g = gk := ⟨_, rfl⟩
        have hEr : Ext wA wr := hE2.trans hXW
        have HO8 := Lib.hid ho8
        have HIL := Lib.hid ho8.ints
        obtain ⟨a7, c7, rfl, _, _, HLC⟩ := ho8.ints.open_
        clear ho8
        have HAT := Lib.hid hbA; clear hbA
        have HSL : Hid (S.length = n) := Lib.hid HGO.out.1
        by_cases hr0 : 0 < r
        · obtain ⟨r, rfl⟩ : ∃ q, r = q + 1 := ⟨r - 1, by omega⟩
          have hwr2 : ((r + 1 : Nat) : Int) - 1 = (r : Int) := by omega
          rw [hwr2]
          have hdr : decide ((r : Int) ≥ 0) = true := by simp
          have hdr2 : decide (0 ≤ (r : Int)) = true := by simp
          have hwr : IntKind.i64.wrap ((r : Int) - 1) = (r : Int) - 1 := IntWalk.i64_in _ (by omega)
          have HNX : Hid (L ++ bestR m left r S :: readGo m left r (nextR m left r S) = shoIn m) := Lib.hid (by rw [← HGO.out.2]; rfl)
          clear HGO hr0
          obtain ⟨W1, rfl⟩ : ∃ W : World, W = wr := ⟨_, rfl⟩
          obtain ⟨cc, hcc⟩ : ∃ cc, cc = selR left r S := ⟨_, rfl⟩
          have HCD := Lib.hid hcc.symm; clear hcc
          go_wp2_with (at_make; refine wpList_make_blk n elBools rfl rfl _ _ rfl rfl rfl (by omega) (by omega) ?_; intro g3 w3 hg3 hblk3 hx3 hl3)
          have hbb3 : BBools w3 g3 (List.replicate n false) := by unfold BBools; simpa using hblk3
          clear hblk3 hl3
          go_loopg [13, 12, 11] m.a.length (fun z i v12 v11 wr => ∃ (t : Nat) (x12 : Value) (gn : Nat), t ≤ m.a.length ∧ m.a.length ≤ t + z ∧ i = .int .i64 t ∧ x12 = v12 ∧ v11 = .slice (some ⟨gn, 0, none⟩) n n ∧ Ext W1 wr ∧ W1.heap.size ≤ gn ∧ BBools wr gn (selTo cc Arc.i adB (List.replicate n false) (m.a.take t)).2 ∧ x12 = .int .i64 (selTo cc Arc.i adB (List.replicate n false) (m.a.take t)).1)
          case atStart => exact ⟨0, _, g3, by omega, by omega, rfl, rfl, rfl, hx3, hg3, hbb3, rfl⟩
          case round =>
            clear hbb3 hx3 hg3
            obtain ⟨t, x12, gn, ht, htz, rfl, rfl, rfl, hX1, hgn, hbn0, hx12⟩ := hrel
            have hEr2 : Ext wA wr := hEr.trans hX1
            by_cases hlt : t < m.a.length
            · obtain ⟨ba, oa, rfl, hc0, hc1, hc2, hc3⟩ := HA.out t hlt
              replace hc0 := hEr2.keep hc0
              replace hc1 := hEr2.keep hc1
              replace hc2 := hEr2.keep hc2
              replace hc3 := hEr2.keep hc3
              have hst := HM.out.arc hlt
              have hst1 := selTo_next (sel := cc) (key := Arc.i) (add := adB) (S0 := List.replicate n false) hlt
              rw [arcA_get hlt] at hst1
              have hol := adB_len (c := cc) (key := Arc.i) n (m.a.take t)
              generalize arcA m.a t = y at *
              generalize selTo cc Arc.i adB (List.replicate n false) (m.a.take t) = P at *
              obtain ⟨bst, O⟩ := P
              obtain ⟨hv, hbn⟩ : x12 = .int .i64 bst ∧ BBools wr gn O := ⟨hx12, hbn0⟩
              clear hx12 hbn0
              subst hv
              have HOL : Hid (O.length = n) := Lib.hid hol
              have HST := Lib.hid hst1; clear hst1 hol
              obtain ⟨yf, yt, yi, yo⟩ := y
              simp only at hc0 hc1 hc2 hc3 hst
              obtain ⟨wB, hwB⟩ : ∃ wB, wB = wr.alloc (.cells #[.int .i64 yf, .int .i64 yt, .int .i64 yi, .int .i64 yo] 50) := ⟨_, rfl⟩
              have hEB : Ext wr wB := by rw [hwB]; exact Ext.alloc _ _
              have b0 : ∀ W, Ext wB W → W.cell? ⟨wr.heap.size, 0, none⟩ = some (.int .i64 yf) := by rw [hwB]; exact kept_alloc wr _ _ rfl
              have b1 : ∀ W, Ext wB W → W.cell? ⟨wr.heap.size, 1, none⟩ = some (.int .i64 yt) := by rw [hwB]; exact kept_alloc wr _ _ rfl
              have b2 : ∀ W, Ext wB W → W.cell? ⟨wr.heap.size, 2, none⟩ = some (.int .i64 yi) := by rw [hwB]; exact kept_alloc wr _ _ rfl
              have b3 : ∀ W, Ext wB W → W.cell? ⟨wr.heap.size, 3, none⟩ = some (.int .i64 yo) := by rw [hwB]; exact kept_alloc wr _ _ rfl
              have HWB := Lib.hid hwB; clear hwB
              have hsB : Ext wB wB := Ext.refl _

              obtain ⟨p, rfl⟩ : ∃ p : Nat, yf = p := ⟨yf.toNat, by omega⟩
              obtain ⟨q, rfl⟩ : ∃ q : Nat, yt = q := ⟨yt.toNat, by omega⟩
              have hp : p < n := by have := HN.out; omega
              have hq : q < n := by have := HN.out; omega
              clear hst
              have hEAB : Ext wA wB := hEr2.trans hEB
              have HBN : Hid (BBools wB gn O) := Lib.hid (Blk.ext hbn hEB); clear hbn

              have q1 := (hX1.trans hEB).keep (HAT.out.cell (i := p) (by rw [HSL.out]; exact hp))
              have q2 : wB.cell? ⟨g, q, none⟩ = some (.int .i64 (at0 left q)) := (hX1.trans hEB).keep (BInts.cell (l := left) (Blk.ext HLF.out hXW) (i := q) (by rw [HLL.out]; exact hq))
              have HCC : Hid (cc ⟨(p : Int), (q : Int), yi, yo⟩ = (S[p]?.getD false && (at0 left q == (r : Int)))) := Lib.hid (by rw [← HCD.out, ← getB_nat]; rfl)
              generalize S[p]?.getD false = b1_ at *
              generalize at0 left q = xq at *

              cases b1_
              · have HSN := Lib.hid (selStep_no (c := cc) (key := Arc.i) (add := adB) (S0 := List.replicate n false) (p := (bst, O)) (a := ⟨(p : Int), (q : Int), yi, yo⟩) (by rw [HCC.out]; simp))
                clear HCC
                go_upto_region 19 with fail
                rw [← HWB.out]
                clear hc0 hc1 hc2 hc3

                have hX5 : Ext W1 wB := hX1.trans hEB
                have z1 := HBN.out.cell (i := q) (by rw [HOL.out]; exact hq)
                have z2 := Blk.frozen HBN.out q
                have HSET := Lib.hid (HBN.out.set q true)
                have HBN5 := Lib.hid HBN.out

                go_wp2_with fail
                go_roundg (gk-1)
                case measure => omega
                case rel => exact ⟨t+1, _, gn, by omega, by omega, by go_num, rfl, rfl, hX5, hgn, by rw [HST.out, HSN.out]; exact HBN5.out, by rw [HST.out, HSN.out]⟩
              · by_cases hi : xq = (r : Int)
                · subst hi
                  have hi1 : ((r : Int) != (r : Int)) = false := by simp
                  by_cases hg : bst < yi
                  · have hgd : decide (yi > bst) = true := by simpa using hg
                    have hgd2 : decide (bst < yi) = true := by simpa using hg
                    have HSN := Lib.hid (selStep_no (c := cc) (key := Arc.i) (add := adB) (S0 := List.replicate n false) (p := (bst, O)) (a := ⟨(p : Int), (q : Int), yi, yo⟩) (by simp; omega))
                    clear HCC
                    go_upto_region 19 with fail
                    rw [← HWB.out]
                    clear hc0 hc1 hc2 hc3

                    have hX5 : Ext W1 wB := hX1.trans hEB
                    have z1 := HBN.out.cell (i := q) (by rw [HOL.out]; exact hq)
                    have z2 := Blk.frozen HBN.out q
                    have HSET := Lib.hid (HBN.out.set q true)
                    have HBN5 := Lib.hid HBN.out

                    go_wp2_with fail
                    go_roundg (gk-1)
                    case measure => omega
                    case rel => exact ⟨t+1, _, gn, by omega, by omega, by go_num, rfl, rfl, hX5, hgn, by rw [HST.out, HSN.out]; exact HBN5.out, by rw [HST.out, HSN.out]⟩
                  · have hgd : decide (yi > bst) = false := by simp; omega
                    have hgd2 : decide (bst < yi) = false := by simp; omega
                    by_cases hlo : yi < bst
                    · have hlod : decide (yi < bst) = true := by simpa using hlo
                      have HSN := Lib.hid (selStep_new (c := cc) (key := Arc.i) (add := adB) (S0 := List.replicate n false) (p := (bst, O)) (a := ⟨(p : Int), (q : Int), yi, yo⟩) (by rw [HCC.out]; simp) hlo)
                      clear HCC
                      go_upto_region 19 with fail
                      rw [← HWB.out]
                      clear hc0 hc1 hc2 hc3

                      have hX5 : Ext W1 wB := hX1.trans hEB
                      have z1 := HBN.out.cell (i := q) (by rw [HOL.out]; exact hq)
                      have z2 := Blk.frozen HBN.out q
                      have HSET := Lib.hid (HBN.out.set q true)
                      have HBN5 := Lib.hid HBN.out

                      go_wp2_with (at_make; refine wpList_make_blk n elBools rfl rfl _ _ rfl rfl rfl (by omega) (by omega) ?_; intro g7 w7 hg7 hblk7 hx7 hl7; have hsB7 := hsB.trans hx7; have hbn7 : BBools w7 g7 (List.replicate n false) := (by unfold BBools; simpa using hblk7); have z3 := hbn7.cell (i := q) (by simpa using hq); have z4 := Blk.frozen hbn7 q; have HSET7 := Lib.hid (hbn7.set q true); clear hbn7 hblk7 hl7)
                      have hgn7 : W1.heap.size ≤ g7 := Nat.le_trans hX5.size hg7
                      go_roundg (gk-1)
                      case measure => omega
                      case rel => exact ⟨t+1, _, g7, by omega, by omega, by go_num, rfl, rfl, (hX5.trans hx7).setCell hgn7 _ _, hgn7, by rw [HST.out, HSN.out]; exact HSET7.out, by rw [HST.out, HSN.out]⟩
                    · have hlod : decide (yi < bst) = false := by simp; omega
                      have HSN := Lib.hid (selStep_add (c := cc) (key := Arc.i) (add := adB) (S0 := List.replicate n false) (p := (bst, O)) (a := ⟨(p : Int), (q : Int), yi, yo⟩) (by rw [HCC.out]; simp) (show yi = bst by omega))
                      clear HCC
                      go_upto_region 19 with fail
                      rw [← HWB.out]
                      clear hc0 hc1 hc2 hc3

                      have hX5 : Ext W1 wB := hX1.trans hEB
                      have z1 := HBN.out.cell (i := q) (by rw [HOL.out]; exact hq)
                      have z2 := Blk.frozen HBN.out q
                      have HSET := Lib.hid (HBN.out.set q true)
                      have HBN5 := Lib.hid HBN.out

                      go_wp2_with fail
                      go_roundg (gk-1)
                      case measure => omega
                      case rel => exact ⟨t+1, _, gn, by omega, by omega, by go_num, rfl, rfl, hX5.setCell hgn _ _, hgn, by rw [HST.out, HSN.out]; exact HSET.out, by rw [HST.out, HSN.out]⟩
                · have hi1 : (xq != (r : Int)) = true := by simp [hi]
                  have HSN := Lib.hid (selStep_no (c := cc) (key := Arc.i) (add := adB) (S0 := List.replicate n false) (p := (bst, O)) (a := ⟨(p : Int), (q : Int), yi, yo⟩) (by rw [HCC.out]; simp [hi]))
                  have HI := Lib.hid hi; clear hi HCC
                  go_upto_region 19 with fail
                  rw [← HWB.out]
                  clear hc0 hc1 hc2 hc3

                  have hX5 : Ext W1 wB := hX1.trans hEB
                  have z1 := HBN.out.cell (i := q) (by rw [HOL.out]; exact hq)
                  have z2 := Blk.frozen HBN.out q
                  have HSET := Lib.hid (HBN.out.set q true)
                  have HBN5 := Lib.hid HBN.out

                  go_wp2_with fail
                  go_roundg (gk-1)
                  case measure => omega
                  case rel => exact ⟨t+1, _, gn, by omega, by omega, by go_num, rfl, rfl, hX5, hgn, by rw [HST.out, HSN.out]; exact HBN5.out, by rw [HST.out, HSN.out]⟩
            · have hSEL : Hid (selTo cc Arc.i adB (List.replicate n false) (m.a.take t) = (bestR m left r S, nextR m left r S)) := Lib.hid (by
                rw [List.take_of_length_le (by omega), adB_sel, ← HCD.out, ← HND.out]; rfl)
              rw [hSEL.out] at hbn0 hx12
              dsimp only at hbn0 hx12
              have HNL : Hid ((nextR m left r S).length = n) := Lib.hid (by rw [nextR_len]; exact HND.out)
              subst hx12
              generalize bestR m left r S = bst at *
              generalize nextR m left r S = S2 at *
              clear hSEL
              have hX2r : Ext w2 wr := hXW.trans hX1
              have hsz : w2.heap.size ≤ wr.heap.size := hX2r.size
              have HO8b := Lib.hid (HO8.out.ext hX1)
              have HBN := Lib.hid hbn0; clear hbn0
              go_wp2_with (at_builtin; refine wpList_append1G elInts rfl _ _ rfl rfl rfl HO8b.out rfl rfl hsz (by omega) (by omega) ?_; intro g' cap' w6 ho6 hg6 hb6)
              have HB6 : Hid (BBools w6 gn S2) := Lib.hid (Blk.kept HBN.out (by decide) HO8b.out hg6)
              go_roundg (g1-1)
              case measure => omega
              case rel => exact ⟨r, _, _, gn, L ++ [bst], S2, by omega, by omega, by go_num, rfl, rfl, rfl, hX2r.upto (Below.of_grownBy hg6 HO8b.out hsz) (Nat.le_refl _), by unfold OInts; rw [ints_append, List.length_append]; simpa [ints] using ho6, by rw [List.length_append]; simp; omega, HB6.out, Lib.hid ⟨HNL.out, by rw [List.append_assoc]; exact HNX.out⟩⟩
        · obtain rfl : r = 0 := by omega
          have HEND : Hid (L = shoIn m) := Lib.hid (by rw [← HGO.out.2]; simp [readGo])
          have HLEN : L.length ≤ 1000 := by omega
          have hz0 : ((0 : Nat) : Int) - 1 = -1 := by omega
          rw [hz0]
          clear HGO hL9 hr0 HAT HSL hrz
          obtain ⟨W2, rfl⟩ : ∃ W : World, W = wr := ⟨_, rfl⟩
          go_wp2_with fail
          refine (HCAN.out W2 hEr _ L HIL.out HLEN).mono ?_; rintro e w4 ⟨vG, rfl, hGrid, hx4⟩
          obtain ⟨A, rfl, hgr⟩ := hGrid
          have HGR := Lib.hid hgr; clear hgr
          have hE4 : Ext wA w4 := hEr.trans hx4
          go_wp2_with (at_make; refine wpList_make_blk n elBools rfl rfl _ _ rfl rfl rfl (by omega) (by omega) ?_; intro g3 w3 hg3 hblk3 hx3 hl3; have z1 := Blk.cell (i := 0) (v := .bool false) hblk3 (by rw [List.getElem?_replicate, if_pos (by omega)]); have z2 := Blk.frozen hblk3 0; have hX3 := hx3.setCell hg3 0 (.bool true))
          have hbb3 := HBG.out w3 g3 hblk3
          clear z1 z2 hblk3 hx3 hl3
          go_loopg [17, 16, 9] L.length (fun z i v16 v9 wr => ∃ (k : Nat) (t8 t9 : Value) (ga : Nat) (O2 : List Int) (S : List Bool), k ≤ L.length ∧ L.length ≤ k + z ∧ i = .int .i64 k ∧ t8 = v16 ∧ t9 = v9 ∧ t9 = .slice (some ⟨ga, 0, none⟩) n n ∧ Ext w4 wr ∧ OInts 3 wr w4.heap.size t8 O2 ∧ O2.length = k ∧ BBools wr ga S ∧ Hid (S.length = n ∧ O2 ++ writeGo m (L.drop k) S = writeGo m L (beginB n)))
          case atStart => exact ⟨0, _, _, g3, [], beginB n, by omega, by omega, rfl, rfl, rfl, rfl, hX3, OInts.nil _ _ _, rfl, hbb3, Lib.hid ⟨beginB_len n, by rw [List.drop_zero]; rfl⟩⟩
          case round =>
            clear hX3 hbb3 hg3
            obtain ⟨k, t8, t9, ga, O2, S, hk, hkz, rfl, rfl, rfl, rfl, hX4, ho16, hO2, hbA, HGO⟩ := hrel
            obtain ⟨g2, rfl⟩ : ∃ g : Nat, g = gk := ⟨_, rfl⟩
            have hEr1 : Ext wA wr := hE4.trans hX4
            have HO16 := Lib.hid ho16
            obtain ⟨a16, c16, rfl, _, _, _⟩ := ho16.ints.open_
            clear ho16
            have HO2 := Lib.hid hO2; clear hO2
            have HAT := Lib.hid hbA; clear hbA
            have HSL : Hid (S.length = n) := Lib.hid HGO.out.1
            by_cases hltk : k < L.length
            · obtain ⟨bu, ou, rfl, hcu⟩ := HLC.out k hltk
              replace hcu := (hx4.trans hX4).keep hcu
              obtain ⟨good, hgood⟩ : ∃ good, good = canL n m (L.drop (k + 1)) := ⟨_, rfl⟩
              have HNX : Hid (O2 ++ bestW m (L[k]?.getD 0) good S :: writeGo m (L.drop (k + 1)) (nextW m (L[k]?.getD 0) good S) = writeGo m L (beginB n)) := Lib.hid (by rw [← HGO.out.2, drop_one hltk, hgood, ← HND.out]; rfl)
              obtain ⟨gq, hgr1, hgr2⟩ := HGR.out (k + 1) (by omega)
              replace hgr1 := hX4.keep hgr1
              replace hgr2 := fun i hi => hX4.keep (hgr2 i hi)
              rw [← hgood] at hgr2
              have HGR1 := Lib.hid hgr1; have HGR2 := Lib.hid hgr2; clear hgr1 hgr2 hgood HGO
              generalize L[k]?.getD 0 = us at *
              have hw1 : IntKind.i64.wrap ((k : Int) + 1) = (k : Int) + 1 := IntWalk.i64_in _ (by omega)
              have hw2 : ((k : Int) + 1).toNat = k + 1 := by omega
              have hw3 : (0 : Int) ≤ (k : Int) + 1 := by omega
              have hw4 : (k : Int) + 1 < ((L.length + 1 : Nat) : Int) := by omega
              have hw5 : k + 1 < L.length + 1 := by omega
              have hw6 : (k : Int) + 1 < (L.length : Int) + 1 := by omega
              obtain ⟨W1, rfl⟩ : ∃ W : World, W = wr := ⟨_, rfl⟩
              obtain ⟨cc, hcc⟩ : ∃ cc, cc = selW us good S := ⟨_, rfl⟩
              have HCD := Lib.hid hcc.symm; clear hcc
              go_wp2_with (at_make; refine wpList_make_blk n elBools rfl rfl _ _ rfl rfl rfl (by omega) (by omega) ?_; intro g3 w3 hg3 hblk3 hx3 hl3)
              have hbb3 : BBools w3 g3 (List.replicate n false) := by unfold BBools; simpa using hblk3
              clear hblk3 hl3
              go_loopg [20, 19, 18] m.a.length (fun z i v12 v11 wr => ∃ (t : Nat) (x12 : Value) (gn : Nat), t ≤ m.a.length ∧ m.a.length ≤ t + z ∧ i = .int .i64 t ∧ x12 = v12 ∧ v11 = .slice (some ⟨gn, 0, none⟩) n n ∧ Ext W1 wr ∧ W1.heap.size ≤ gn ∧ BBools wr gn (selTo cc Arc.o adB (List.replicate n false) (m.a.take t)).2 ∧ x12 = .int .i64 (selTo cc Arc.o adB (List.replicate n false) (m.a.take t)).1)
              case atStart => exact ⟨0, _, g3, by omega, by omega, rfl, rfl, rfl, hx3, hg3, hbb3, rfl⟩
              case round =>
                clear hbb3 hx3 hg3
                obtain ⟨t, x12, gn, ht, htz, rfl, rfl, rfl, hX1, hgn, hbn0, hx12⟩ := hrel
                have hEr2 : Ext wA wr := hEr1.trans hX1
                by_cases hlt : t < m.a.length
                · obtain ⟨ba, oa, rfl, hc0, hc1, hc2, hc3⟩ := HA.out t hlt
                  replace hc0 := hEr2.keep hc0
                  replace hc1 := hEr2.keep hc1
                  replace hc2 := hEr2.keep hc2
                  replace hc3 := hEr2.keep hc3
                  have hst := HM.out.arc hlt
                  have hst1 := selTo_next (sel := cc) (key := Arc.o) (add := adB) (S0 := List.replicate n false) hlt
                  rw [arcA_get hlt] at hst1
                  have hol := adB_len (c := cc) (key := Arc.o) n (m.a.take t)
                  generalize arcA m.a t = y at *
                  generalize selTo cc Arc.o adB (List.replicate n false) (m.a.take t) = P at *
                  obtain ⟨bst, O⟩ := P
                  obtain ⟨hv, hbn⟩ : x12 = .int .i64 bst ∧ BBools wr gn O := ⟨hx12, hbn0⟩
                  clear hx12 hbn0
                  subst hv
                  have HOL : Hid (O.length = n) := Lib.hid hol
                  have HST := Lib.hid hst1; clear hst1 hol
                  obtain ⟨yf, yt, yi, yo⟩ := y
                  simp only at hc0 hc1 hc2 hc3 hst
                  obtain ⟨wB, hwB⟩ : ∃ wB, wB = wr.alloc (.cells #[.int .i64 yf, .int .i64 yt, .int .i64 yi, .int .i64 yo] 50) := ⟨_, rfl⟩
                  have hEB : Ext wr wB := by rw [hwB]; exact Ext.alloc _ _
                  have b0 : ∀ W, Ext wB W → W.cell? ⟨wr.heap.size, 0, none⟩ = some (.int .i64 yf) := by rw [hwB]; exact kept_alloc wr _ _ rfl
                  have b1 : ∀ W, Ext wB W → W.cell? ⟨wr.heap.size, 1, none⟩ = some (.int .i64 yt) := by rw [hwB]; exact kept_alloc wr _ _ rfl
                  have b2 : ∀ W, Ext wB W → W.cell? ⟨wr.heap.size, 2, none⟩ = some (.int .i64 yi) := by rw [hwB]; exact kept_alloc wr _ _ rfl
                  have b3 : ∀ W, Ext wB W → W.cell? ⟨wr.heap.size, 3, none⟩ = some (.int .i64 yo) := by rw [hwB]; exact kept_alloc wr _ _ rfl
                  have HWB := Lib.hid hwB; clear hwB
                  have hsB : Ext wB wB := Ext.refl _

                  obtain ⟨p, rfl⟩ : ∃ p : Nat, yf = p := ⟨yf.toNat, by omega⟩
                  obtain ⟨q, rfl⟩ : ∃ q : Nat, yt = q := ⟨yt.toNat, by omega⟩
                  have hp : p < n := by have := HN.out; omega
                  have hq : q < n := by have := HN.out; omega
                  clear hst
                  have hEAB : Ext wA wB := hEr2.trans hEB
                  have HBN : Hid (BBools wB gn O) := Lib.hid (Blk.ext hbn hEB); clear hbn

                  have hs : ∀ s : Later wB, Ext wB s.w := fun s => s.ext
                  have q1 := fun s : Later wB => (hX1.trans (hEB.trans s.ext)).keep (HAT.out.cell (i := p) (by rw [HSL.out]; exact hp))
                  have q2 := fun s : Later wB => (hX1.trans (hEB.trans s.ext)).keep hcu
                  have q3 := fun s : Later wB => (hX1.trans (hEB.trans s.ext)).keep HGR1.out
                  have q4 := fun s : Later wB => (hX1.trans (hEB.trans s.ext)).keep (HGR2.out q hq)
                  have q5 := fun s : Later wB => hEAB.trans s.ext
                  have HCC : Hid (cc ⟨(p : Int), (q : Int), yi, yo⟩ = (S[p]?.getD false && (yi == us && good[q]?.getD false))) := Lib.hid (by rw [← HCD.out, ← getB_nat, ← getB_nat]; rfl)
                  generalize S[p]?.getD false = b1_ at *
                  generalize good[q]?.getD false = b4_ at *

                  cases b1_
                  · have HSN := Lib.hid (selStep_no (c := cc) (key := Arc.o) (add := adB) (S0 := List.replicate n false) (p := (bst, O)) (a := ⟨(p : Int), (q : Int), yi, yo⟩) (by rw [HCC.out]; simp))
                    clear HCC
                    go_upto_region 39 with fail
                    rw [← HWB.out]
                    clear hc0 hc1 hc2 hc3
                    go_wp2_with fail
                    refine wp_region_later (by kernel_rfl) (by kernel_rfl) ?_
                    repeat (go_big_quiet_step (fail))
                    refine wpQuiet_nil ?_
                    intro w5 hw'
                    obtain ⟨⟨_, hx5⟩, rfl⟩ := hw'
                    clear hs q1 q2 q3 q4 q5
                    have hsB : Ext wB w5 := hx5
                    have hEAB : Ext wA w5 := hEr2.trans (hEB.trans hx5)
                    have hX5 : Ext W1 w5 := hX1.trans (hEB.trans hx5)
                    have hbn5 : BBools w5 gn O := Blk.ext HBN.out hx5
                    have z1 := hbn5.cell (i := q) (by rw [HOL.out]; exact hq)
                    have z2 := Blk.frozen hbn5 q
                    have HSET := Lib.hid (hbn5.set q true)
                    have HBN5 := Lib.hid hbn5; clear hbn5

                    go_wp2_with fail
                    go_roundg (gk-1)
                    case measure => omega
                    case rel => exact ⟨t+1, _, gn, by omega, by omega, by go_num, rfl, rfl, hX5, hgn, by rw [HST.out, HSN.out]; exact HBN5.out, by rw [HST.out, HSN.out]⟩
                  · by_cases hi : yi = us
                    · subst hi
                      have hi1 : (yi != yi) = false := by simp
                      by_cases hg : bst < yo
                      · have hgd : decide (yo > bst) = true := by simpa using hg
                        have hgd2 : decide (bst < yo) = true := by simpa using hg
                        have HSN := Lib.hid (selStep_no (c := cc) (key := Arc.o) (add := adB) (S0 := List.replicate n false) (p := (bst, O)) (a := ⟨(p : Int), (q : Int), yi, yo⟩) (by simp; omega))
                        clear HCC
                        cases b4_
                        · have HZ : Hid True := Lib.hid trivial
                          go_upto_region 39 with fail
                          rw [← HWB.out]
                          clear hc0 hc1 hc2 hc3
                          go_wp2_with fail
                          refine wp_region_later (by kernel_rfl) (by kernel_rfl) ?_
                          repeat (go_big_quiet_step (fail))
                          refine wpQuiet_nil ?_
                          intro w5 hw'
                          obtain ⟨⟨_, hx5⟩, rfl⟩ := hw'
                          clear hs q1 q2 q3 q4 q5
                          have hsB : Ext wB w5 := hx5
                          have hEAB : Ext wA w5 := hEr2.trans (hEB.trans hx5)
                          have hX5 : Ext W1 w5 := hX1.trans (hEB.trans hx5)
                          have hbn5 : BBools w5 gn O := Blk.ext HBN.out hx5
                          have z1 := hbn5.cell (i := q) (by rw [HOL.out]; exact hq)
                          have z2 := Blk.frozen hbn5 q
                          have HSET := Lib.hid (hbn5.set q true)
                          have HBN5 := Lib.hid hbn5; clear hbn5

                          go_wp2_with fail
                          go_roundg (gk-1)
                          case measure => omega
                          case rel => exact ⟨t+1, _, gn, by omega, by omega, by go_num, rfl, rfl, hX5, hgn, by rw [HST.out, HSN.out]; exact HBN5.out, by rw [HST.out, HSN.out]⟩
                        · have HZ : Hid True := Lib.hid trivial
                          go_upto_region 39 with fail
                          rw [← HWB.out]
                          clear hc0 hc1 hc2 hc3
                          go_wp2_with fail
                          refine wp_region_later (by kernel_rfl) (by kernel_rfl) ?_
                          repeat (go_big_quiet_step (fail))
                          refine wpQuiet_nil ?_
                          intro w5 hw'
                          obtain ⟨⟨_, hx5⟩, rfl⟩ := hw'
                          clear hs q1 q2 q3 q4 q5
                          have hsB : Ext wB w5 := hx5
                          have hEAB : Ext wA w5 := hEr2.trans (hEB.trans hx5)
                          have hX5 : Ext W1 w5 := hX1.trans (hEB.trans hx5)
                          have hbn5 : BBools w5 gn O := Blk.ext HBN.out hx5
                          have z1 := hbn5.cell (i := q) (by rw [HOL.out]; exact hq)
                          have z2 := Blk.frozen hbn5 q
                          have HSET := Lib.hid (hbn5.set q true)
                          have HBN5 := Lib.hid hbn5; clear hbn5

                          go_wp2_with fail
                          go_roundg (gk-1)
                          case measure => omega
                          case rel => exact ⟨t+1, _, gn, by omega, by omega, by go_num, rfl, rfl, hX5, hgn, by rw [HST.out, HSN.out]; exact HBN5.out, by rw [HST.out, HSN.out]⟩
                      · have hgd : decide (yo > bst) = false := by simp; omega
                        have hgd2 : decide (bst < yo) = false := by simp; omega
                        cases b4_
                        · have HSN := Lib.hid (selStep_no (c := cc) (key := Arc.o) (add := adB) (S0 := List.replicate n false) (p := (bst, O)) (a := ⟨(p : Int), (q : Int), yi, yo⟩) (by rw [HCC.out]; simp))
                          clear HCC
                          go_upto_region 39 with fail
                          rw [← HWB.out]
                          clear hc0 hc1 hc2 hc3
                          go_wp2_with fail
                          refine wp_region_later (by kernel_rfl) (by kernel_rfl) ?_
                          repeat (go_big_quiet_step (fail))
                          refine wpQuiet_nil ?_
                          intro w5 hw'
                          obtain ⟨⟨_, hx5⟩, rfl⟩ := hw'
                          clear hs q1 q2 q3 q4 q5
                          have hsB : Ext wB w5 := hx5
                          have hEAB : Ext wA w5 := hEr2.trans (hEB.trans hx5)
                          have hX5 : Ext W1 w5 := hX1.trans (hEB.trans hx5)
                          have hbn5 : BBools w5 gn O := Blk.ext HBN.out hx5
                          have z1 := hbn5.cell (i := q) (by rw [HOL.out]; exact hq)
                          have z2 := Blk.frozen hbn5 q
                          have HSET := Lib.hid (hbn5.set q true)
                          have HBN5 := Lib.hid hbn5; clear hbn5

                          go_wp2_with fail
                          go_roundg (gk-1)
                          case measure => omega
                          case rel => exact ⟨t+1, _, gn, by omega, by omega, by go_num, rfl, rfl, hX5, hgn, by rw [HST.out, HSN.out]; exact HBN5.out, by rw [HST.out, HSN.out]⟩
                        · have HZ : Hid True := Lib.hid trivial
                          by_cases hlo : yo < bst
                          · have hlod : decide (yo < bst) = true := by simpa using hlo
                            have HSN := Lib.hid (selStep_new (c := cc) (key := Arc.o) (add := adB) (S0 := List.replicate n false) (p := (bst, O)) (a := ⟨(p : Int), (q : Int), yi, yo⟩) (by rw [HCC.out]; simp) hlo)
                            clear HCC
                            go_upto_region 39 with fail
                            rw [← HWB.out]
                            clear hc0 hc1 hc2 hc3
                            go_wp2_with fail
                            refine wp_region_later (by kernel_rfl) (by kernel_rfl) ?_
                            repeat (go_big_quiet_step (fail))
                            refine wpQuiet_nil ?_
                            intro w5 hw'
                            obtain ⟨⟨_, hx5⟩, rfl⟩ := hw'
                            clear hs q1 q2 q3 q4 q5
                            have hsB : Ext wB w5 := hx5
                            have hEAB : Ext wA w5 := hEr2.trans (hEB.trans hx5)
                            have hX5 : Ext W1 w5 := hX1.trans (hEB.trans hx5)
                            have hbn5 : BBools w5 gn O := Blk.ext HBN.out hx5
                            have z1 := hbn5.cell (i := q) (by rw [HOL.out]; exact hq)
                            have z2 := Blk.frozen hbn5 q
                            have HSET := Lib.hid (hbn5.set q true)
                            have HBN5 := Lib.hid hbn5; clear hbn5

                            go_wp2_with (at_make; refine wpList_make_blk n elBools rfl rfl _ _ rfl rfl rfl (by omega) (by omega) ?_; intro g7 w7 hg7 hblk7 hx7 hl7; have hsB7 := hsB.trans hx7; have hbn7 : BBools w7 g7 (List.replicate n false) := (by unfold BBools; simpa using hblk7); have z3 := hbn7.cell (i := q) (by simpa using hq); have z4 := Blk.frozen hbn7 q; have HSET7 := Lib.hid (hbn7.set q true); clear hbn7 hblk7 hl7)
                            have hgn7 : W1.heap.size ≤ g7 := Nat.le_trans hX5.size hg7
                            go_roundg (gk-1)
                            case measure => omega
                            case rel => exact ⟨t+1, _, g7, by omega, by omega, by go_num, rfl, rfl, (hX5.trans hx7).setCell hgn7 _ _, hgn7, by rw [HST.out, HSN.out]; exact HSET7.out, by rw [HST.out, HSN.out]⟩
                          · have hlod : decide (yo < bst) = false := by simp; omega
                            have HSN := Lib.hid (selStep_add (c := cc) (key := Arc.o) (add := adB) (S0 := List.replicate n false) (p := (bst, O)) (a := ⟨(p : Int), (q : Int), yi, yo⟩) (by rw [HCC.out]; simp) (show yo = bst by omega))
                            clear HCC
                            go_upto_region 39 with fail
                            rw [← HWB.out]
                            clear hc0 hc1 hc2 hc3
                            go_wp2_with fail
                            refine wp_region_later (by kernel_rfl) (by kernel_rfl) ?_
                            repeat (go_big_quiet_step (fail))
                            refine wpQuiet_nil ?_
                            intro w5 hw'
                            obtain ⟨⟨_, hx5⟩, rfl⟩ := hw'
                            clear hs q1 q2 q3 q4 q5
                            have hsB : Ext wB w5 := hx5
                            have hEAB : Ext wA w5 := hEr2.trans (hEB.trans hx5)
                            have hX5 : Ext W1 w5 := hX1.trans (hEB.trans hx5)
                            have hbn5 : BBools w5 gn O := Blk.ext HBN.out hx5
                            have z1 := hbn5.cell (i := q) (by rw [HOL.out]; exact hq)
                            have z2 := Blk.frozen hbn5 q
                            have HSET := Lib.hid (hbn5.set q true)
                            have HBN5 := Lib.hid hbn5; clear hbn5

                            go_wp2_with fail
                            go_roundg (gk-1)
                            case measure => omega
                            case rel => exact ⟨t+1, _, gn, by omega, by omega, by go_num, rfl, rfl, hX5.setCell hgn _ _, hgn, by rw [HST.out, HSN.out]; exact HSET.out, by rw [HST.out, HSN.out]⟩
                    · have hi1 : (yi != us) = true := by simp [hi]
                      have HSN := Lib.hid (selStep_no (c := cc) (key := Arc.o) (add := adB) (S0 := List.replicate n false) (p := (bst, O)) (a := ⟨(p : Int), (q : Int), yi, yo⟩) (by rw [HCC.out]; simp [hi]))
                      have HI := Lib.hid hi; clear hi HCC
                      go_upto_region 39 with fail
                      rw [← HWB.out]
                      clear hc0 hc1 hc2 hc3
                      go_wp2_with fail
                      refine wp_region_later (by kernel_rfl) (by kernel_rfl) ?_
                      repeat (go_big_quiet_step (fail))
                      refine wpQuiet_nil ?_
                      intro w5 hw'
                      obtain ⟨⟨_, hx5⟩, rfl⟩ := hw'
                      clear hs q1 q2 q3 q4 q5
                      have hsB : Ext wB w5 := hx5
                      have hEAB : Ext wA w5 := hEr2.trans (hEB.trans hx5)
                      have hX5 : Ext W1 w5 := hX1.trans (hEB.trans hx5)
                      have hbn5 : BBools w5 gn O := Blk.ext HBN.out hx5
                      have z1 := hbn5.cell (i := q) (by rw [HOL.out]; exact hq)
                      have z2 := Blk.frozen hbn5 q
                      have HSET := Lib.hid (hbn5.set q true)
                      have HBN5 := Lib.hid hbn5; clear hbn5

                      go_wp2_with fail
                      go_roundg (gk-1)
                      case measure => omega
                      case rel => exact ⟨t+1, _, gn, by omega, by omega, by go_num, rfl, rfl, hX5, hgn, by rw [HST.out, HSN.out]; exact HBN5.out, by rw [HST.out, HSN.out]⟩
                · have hSEL : Hid (selTo cc Arc.o adB (List.replicate n false) (m.a.take t) = (bestW m us good S, nextW m us good S)) := Lib.hid (by
                    rw [List.take_of_length_le (by omega), adB_sel, ← HCD.out, ← HND.out]; rfl)
                  rw [hSEL.out] at hbn0 hx12
                  dsimp only at hbn0 hx12
                  have HNL : Hid ((nextW m us good S).length = n) := Lib.hid (by rw [nextW_len]; exact HND.out)
                  subst hx12
                  generalize bestW m us good S = bst at *
                  generalize nextW m us good S = S2 at *
                  clear hSEL
                  have hX2r : Ext w4 wr := hX4.trans hX1
                  have hsz : w4.heap.size ≤ wr.heap.size := hX2r.size
                  have HO8b := Lib.hid (HO16.out.ext hX1)
                  have HBN := Lib.hid hbn0; clear hbn0
                  have hO2l : O2.length ≤ 1000 := by rw [HO2.out]; omega
                  go_wp2_with (at_builtin; refine wpList_append1G elInts rfl _ _ rfl rfl rfl HO8b.out rfl rfl hsz (by omega) (by omega) ?_; intro g' cap' w6 ho6 hg6 hb6)
                  have HB6 : Hid (BBools w6 gn S2) := Lib.hid (Blk.kept HBN.out (by decide) HO8b.out hg6)
                  go_roundg (g2-1)
                  case measure => omega
                  case rel => exact ⟨k+1, _, _, gn, O2 ++ [bst], S2, by omega, by omega, by go_num, rfl, rfl, rfl, hX2r.upto (Below.of_grownBy hg6 HO8b.out hsz) (Nat.le_refl _), by unfold OInts; rw [ints_append, List.length_append]; simpa [ints] using ho6, by rw [List.length_append]; simp [HO2.out], HB6.out, Lib.hid ⟨HNL.out, by rw [List.append_assoc]; exact HNX.out⟩⟩
            · have hku : k = L.length := by omega
              have HE2 : Hid (O2 = writeGo m L (beginB n)) := Lib.hid (by rw [← HGO.out.2, hku, List.drop_length]; simp [writeGo])
              go_wp2_with fail
              ((try simp only [Exit.inBlock, Exit.then]); refine bodyPost_ret (results_tmp4 rfl _ _ _) rfl ?_)
              exact ⟨_, _, by rw [HST0.out, HVZ.out]; rfl, by unfold shoI; rw [if_pos HST0.out, ← HEND.out]; exact HIL.out.ext (hx4.trans hX4), by unfold shoO shoOut; rw [if_pos HST0.out, ← HEND.out, HND.out, ← HE2.out]; exact HO16.out.ints, hE0.trans hEr1⟩
  · have HSF : Hid (shoB m = false) := Lib.hid (by unfold shoB; rw [decide_eq_false hv]; rfl)
    have hk : (validM m != 0) = true := by simp [hv]
    have HW := Lib.hid hwA; clear hwA h
    obtain ⟨k, hkv⟩ : ∃ k, validM m = k := ⟨_, rfl⟩
    have HKV := Lib.hid hkv
    rw [hkv] at HV hk
    clear hv hkv
    go_enter Try.func50, Try.ntmps50
    go_wp2_with fail
    rw [← HW.out]
    refine HV.out.mono ?_; rintro e w1 ⟨rfl, hx1⟩
    go_wp2_with fail
    ((try simp only [Exit.inBlock, Exit.then]); refine bodyPost_ret (results_tmp4 rfl _ _ _) rfl ?_)
    exact RSho.bad HKV.out HSF.out rfl (hE0.trans hx1)
end Go.Proofs.Ytodhmkbkcjpnkaa
