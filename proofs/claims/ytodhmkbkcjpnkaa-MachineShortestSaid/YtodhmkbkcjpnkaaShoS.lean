/- Machines: what a shortest run reads and writes, of the program. -/
import Derived.Test.YtodhmkbkcjpnkaaShoF
namespace Go.Proofs.Ytodhmkbkcjpnkaa
open Go.RowKit Go.Shelf
set_option linter.unusedVariables false
def shoB (m : Mac) : Bool := decide (validM m = 0) && decide (0 ≤ shoD m)
def shoI (m : Mac) : List Int := if shoB m = true then shoIn m else []
def shoO (m : Mac) : List Int := if shoB m = true then shoOut m else []
/-- two lists, whether there are any, and an error come back -/
def RSho (m : Mac) (w : World) (e : Ending) (w' : World) : Prop := ∃ v1 v2, e = .returned (.tuple #[v1, v2, .bool (shoB m), .int .i64 (validM m)]) ∧ Ints w' v1 (shoI m) ∧ Ints w' v2 (shoO m) ∧ Ext w w'
theorem RSho.bad {m : Mac} {w w' : World} {e : Ending} {k : Int} (hk : validM m = k) (h : shoB m = false) (he : e = .returned (.tuple #[.slice none 0 0, .slice none 0 0, .bool false, .int .i64 k])) (hx : Ext w w') : RSho m w e w' :=
  ⟨_, _, by rw [h, hk]; exact he, by unfold shoI; rw [h]; exact (OInts.nil 3 w' 0).ints, by unfold shoO; rw [h]; exact (OInts.nil 3 w' 0).ints, hx⟩
def selN (N left : List Int) (r : Int) (a : Arc) : Bool := hasB N a.f && (at0 left (tN a) == r)
theorem selN_eq (N left : List Int) (r : Int) : selN N left r = selRP left r N := by funext a; unfold selN selRP; rw [hasB_contains]
def selN2 (N left : List Int) (r b : Int) (a : Arc) : Bool := (hasB N a.f && (at0 left (tN a) == r)) && a.i == b
theorem selN2_eq (N left : List Int) (r b : Int) : selN2 N left r b = fun a => selRP left r N a && a.i == b := by funext a; unfold selN2 selRP; rw [hasB_contains]
theorem best_le6 {c : Arc → Bool} {key : Arc → Int} (ar : List Arc) : bestOf c key ar ≤ 6 := (best_le ar).1
theorem readGo_next (m : Mac) (left : List Int) (r : Nat) (S : List Bool) : readGo m left (r + 1) S = bestR m left r S :: readGo m left r (nextR m left r S) := rfl

set_option maxHeartbeats 8000000 in
set_option maxRecDepth 100000 in
theorem Shortest_c (av ev : Value) (m : Mac) (w : World) (h : MacR w av ev m) : Calls Try.prog 49 #[.agg #[.int .i64 m.s, av, ev]] w (RSho m w) := by
  obtain ⟨wA, hwA⟩ : ∃ wA, wA = w.alloc (.cells #[.int .i64 m.s, av, ev] 25) := ⟨_, rfl⟩
  have hE0 : Ext w wA := by rw [hwA]; exact Ext.alloc _ _
  have k0 : ∀ W, Ext wA W → W.cell? ⟨w.heap.size, 0, none⟩ = some (.int .i64 m.s) := by rw [hwA]; exact kept_alloc w _ _ rfl
  have k1 : ∀ W, Ext wA W → W.cell? ⟨w.heap.size, 1, none⟩ = some av := by rw [hwA]; exact kept_alloc w _ _ rfl
  have k2 : ∀ W, Ext wA W → W.cell? ⟨w.heap.size, 2, none⟩ = some ev := by rw [hwA]; exact kept_alloc w _ _ rfl
  have H0 : Ext wA wA := Ext.refl _
  have hzA : wA.heap.size = w.heap.size + 1 := by rw [hwA]; simp
  have HR := Lib.hid (h.ext hE0)
  obtain ⟨aa, ca, rfl, hla, hma, HA⟩ := (h.ext hE0).a.open_
  obtain ⟨ae, ce, rfl, hle, hme, HE⟩ := (h.ext hE0).e.open_
  have HV := Lib.hid (Validate_c _ _ m wA HR.out)
  have HW := Lib.hid hwA; clear hwA h
  by_cases hv : validM m = 0
  · have HM := Lib.hid (validM_mac hv)
    have HVZ := Lib.hid hv
    rw [hv] at HV
    clear hv
    have HFC := Lib.hid (fun W (hW : Ext wA W) => far_c _ _ m W (HR.out.ext hW) HM.out)
    obtain ⟨n, hn⟩ : ∃ n : Nat, m.s.toNat = n := ⟨_, rfl⟩
    have hn1 : 1 ≤ n := by have := HM.out.s1; omega
    have hn9 : n ≤ 9 := by have := HM.out.s2; omega
    have HLL0 : Hid ((farL m).length = n) := Lib.hid (by unfold farL; rw [pRnd_len, far0_len, hn])
    have HN : Hid (m.s = (n : Int)) := Lib.hid (by have := HM.out.s1; omega)
    have HND := Lib.hid hn; clear hn
    have HSB : Hid (shoB m = decide (0 ≤ at0 (farL m) 0)) := Lib.hid (by unfold shoB; rw [decide_eq_true HVZ.out, Bool.true_and]; rfl)
    have HDB := Lib.hid (shoD_bd HM.out)
    go_enter Try.func49, Try.ntmps49
    go_wp2_with fail
    rw [← HW.out]
    refine HV.out.mono ?_; rintro e w1 ⟨rfl, hx1⟩
    go_wp2_with fail
    refine (HFC.out w1 hx1).mono ?_; rintro e w2 ⟨g, rfl, hbk, hg, hx2⟩
    rw [HLL0.out]
    have hE2 : Ext wA w2 := hx1.trans hx2
    have q0 : w2.cell? ⟨g, 0, none⟩ = some (.int .i64 (at0 (farL m) 0)) := hbk.cell (i := 0) (by rw [HLL0.out]; omega)
    have HLF := Lib.hid hbk
    have hgn : g < w2.heap.size := Blk.lt hbk
    clear hbk
    have hdb : -1 ≤ at0 (farL m) 0 ∧ at0 (farL m) 0 < 9 := HDB.out
    generalize hd0 : at0 (farL m) 0 = d at *
    have HD0 := Lib.hid hd0; clear hd0
    by_cases hd : d < 0
    · have hdd : decide (d < 0) = true := by simpa using hd
      have HSF : Hid (shoB m = false) := Lib.hid (by rw [HSB.out]; simp; omega)
      clear HSB hdb hd
      go_wp2_with fail
      ((try simp only [Exit.inBlock, Exit.then]); refine bodyPost_ret (results_tmp4 rfl _ _ _) rfl ?_)
      exact RSho.bad HVZ.out HSF.out rfl (hE0.trans hE2)
    · have hdd : decide (d < 0) = false := by simpa using hd
      have HST0 : Hid (shoB m = true) := Lib.hid (by rw [HSB.out]; simp; omega)
      obtain ⟨r0, rfl⟩ : ∃ r : Nat, d = r := ⟨d.toNat, by omega⟩
      have hr09 : r0 ≤ 9 := by omega
      have HSI : Hid (readGo m (farL m) r0 (beginB n) = shoIn m) := Lib.hid (by unfold shoIn shoD; rw [HD0.out, HND.out]; rfl)
      have HS0 : Hid (SameS n [0] (beginB n)) := Lib.hid (SameS.begin (by omega))
      have HLL := Lib.hid HLL0.out
      clear HLL0 HSB hdb hd HD0 HDB
      generalize farL m = left at *
      have hx0 := Ext.alloc w2 (.cells #[.int .i64 0] 3)
      have HI0 : Hid (Ints (w2.alloc (.cells #[.int .i64 0] 3)) (.slice (some ⟨w2.heap.size, 0, none⟩) 1 1) [0]) := Lib.hid (by
        have := BInts.ints (W := w2.alloc (.cells #[.int .i64 0] 3)) (g := w2.heap.size) (l := [0]) (Blk.alloc w2 _ _) (by simp)
        exact this)
      have q1 := hx0.keep q0
      go_wp2_with fail
      go_loopg [10, 8, 9] r0 (fun z i v8 v9 wr => ∃ (r : Nat) (t8 t9 : Value) (L N : List Int) (S : List Bool), r ≤ z ∧ r ≤ 9 ∧ i = .int .i64 r ∧ t8 = v8 ∧ t9 = v9 ∧ Ext w2 wr ∧ OInts 3 wr w2.heap.size t8 L ∧ L.length + r ≤ 9 ∧ Ints wr t9 N ∧ Hid (SameS n N S ∧ L ++ readGo m left r S = shoIn m))
      case atStart => exact ⟨r0, _, _, [], [0], beginB n, by omega, by omega, rfl, rfl, rfl, hx0, OInts.nil _ _ _, by simp; omega, HI0.out, Lib.hid ⟨HS0.out, HSI.out⟩⟩
      case round =>
        clear hx0 HI0 HS0 q1 q0
        obtain ⟨r, t8, t9, L, N, S, hrz, hr9, rfl, rfl, rfl, hXW, ho8, hL9, hI9, HGO⟩ := hrel
        obtain ⟨g1, rfl⟩ : ∃ g : Nat, g = gk := ⟨_, rfl⟩
        have hEr : Ext wA wr := hE2.trans hXW
        have HI9 := Lib.hid hI9
        obtain ⟨a8, c8, rfl, _, _, _⟩ := hI9.open_
        have HO8 := Lib.hid ho8
        have HIL := Lib.hid ho8.ints
        obtain ⟨a7, c7, rfl, _, _, _⟩ := ho8.ints.open_
        clear hI9 ho8
        by_cases hr0 : 0 < r
        · obtain ⟨r, rfl⟩ : ∃ q, r = q + 1 := ⟨r - 1, by omega⟩
          have hdr : decide (((r + 1 : Nat) : Int) > 0) = true := by simp
          have hdr2 : decide (0 < (r : Int) + 1) = true := by rw [decide_eq_true_iff]; omega
          have hwr : IntKind.i64.wrap ((r : Int) + 1 - 1) = (r : Int) := by rw [Int.add_sub_cancel]; exact IntWalk.i64_in _ (by omega)
          have hwr1 : IntKind.i64.wrap (r : Int) = (r : Int) := IntWalk.i64_in _ (by omega)
          have hwr2 : ((r + 1 : Nat) : Int) = (r : Int) + 1 := by omega
          rw [hwr2]
          have HNX : Hid (L ++ bestR m left r S :: readGo m left r (nextR m left r S) = shoIn m) := Lib.hid (by rw [← HGO.out.2]; rfl)
          have HSS : Hid (SameS n N S) := Lib.hid HGO.out.1
          clear HGO hr0
          obtain ⟨W1, rfl⟩ : ∃ W : World, W = wr := ⟨_, rfl⟩
          obtain ⟨cc, hcc⟩ : ∃ cc, cc = selN N left r := ⟨_, rfl⟩
          have HCD := Lib.hid hcc.symm; clear hcc
          go_wp2_with fail
          go_loopg [40, 11] m.a.length (fun z i v11 wr => ∃ t : Nat, t ≤ m.a.length ∧ m.a.length ≤ t + z ∧ i = .int .i64 t ∧ v11 = .int .i64 (bestOf cc Arc.i (m.a.take t)) ∧ Ext W1 wr)
          case atStart => exact ⟨0, by omega, by omega, rfl, rfl, Ext.refl _⟩
          case round =>
            obtain ⟨t, ht, htz, rfl, rfl, hX1⟩ := hrel
            have hEr2 : Ext wA wr := hEr.trans hX1
            by_cases hlt : t < m.a.length
            · obtain ⟨ba, oa, rfl, hc0, hc1, hc2, hc3⟩ := HA.out t hlt
              replace hc0 := hEr2.keep hc0
              replace hc1 := hEr2.keep hc1
              replace hc2 := hEr2.keep hc2
              replace hc3 := hEr2.keep hc3
              have hst := HM.out.arc hlt
              have hst1 := bestOf_next (sel := cc) (key := Arc.i) hlt
              rw [arcA_get hlt] at hst1
              have HST := Lib.hid hst1; clear hst1
              generalize arcA m.a t = y at *
              generalize bestOf cc Arc.i (m.a.take t) = bst at *
              obtain ⟨yf, yt, yi, yo⟩ := y
              simp only at hc0 hc1 hc2 hc3 hst
              obtain ⟨wB, hwB⟩ : ∃ wB, wB = wr.alloc (.cells #[.int .i64 yf, .int .i64 yt, .int .i64 yi, .int .i64 yo] 50) := ⟨_, rfl⟩
              have hEB : Ext wr wB := by rw [hwB]; exact Ext.alloc _ _
              have b0 : ∀ W, Ext wB W → W.cell? ⟨wr.heap.size, 0, none⟩ = some (.int .i64 yf) := by rw [hwB]; exact kept_alloc wr _ _ rfl
              have b1 : ∀ W, Ext wB W → W.cell? ⟨wr.heap.size, 1, none⟩ = some (.int .i64 yt) := by rw [hwB]; exact kept_alloc wr _ _ rfl
              have b2 : ∀ W, Ext wB W → W.cell? ⟨wr.heap.size, 2, none⟩ = some (.int .i64 yi) := by rw [hwB]; exact kept_alloc wr _ _ rfl
              have b3 : ∀ W, Ext wB W → W.cell? ⟨wr.heap.size, 3, none⟩ = some (.int .i64 yo) := by rw [hwB]; exact kept_alloc wr _ _ rfl
              have HWB := Lib.hid hwB; clear hwB
              have hsB : Ext wB wB := Ext.refl _

              obtain ⟨q, rfl⟩ : ∃ q : Nat, yt = q := ⟨yt.toNat, by omega⟩
              have hq : q < n := by have := HN.out; omega
              have q1 : wB.cell? ⟨g, q, none⟩ = some (.int .i64 (at0 left q)) := (hX1.trans hEB).keep (BInts.cell (l := left) (Blk.ext HLF.out hXW) (i := q) (by rw [HLL.out]; exact hq))
              have HC1 := Lib.hid (contains_c _ N yf wB (HI9.out.ext (hX1.trans hEB)))
              have HCC : Hid (cc ⟨yf, (q : Int), yi, yo⟩ = (hasB N yf && (at0 left q == (r : Int)))) := Lib.hid (by rw [← HCD.out]; rfl)
              clear hst
              generalize hasB N yf = b1_ at *
              generalize at0 left q = xq at *

              cases b1_
              · have HX : Hid True := Lib.hid trivial
                go_upto_region 16 with fail
                rw [← HWB.out]
                clear hc0 hc1 hc2 hc3
                go_wp2_with (go_at_call 87; refine HC1.out.mono ?_; rintro e w5 ⟨rfl, rfl⟩)
                go_roundg (gk-1)
                case measure => omega
                case rel => exact ⟨t+1, by omega, by omega, by go_num, by rw [HST.out, if_neg (by rw [HCC.out]; simp [HX.out])], hX1.trans hEB⟩
              · by_cases hi : xq = (r : Int)
                · subst hi
                  have hi1 : ((r : Int) == (r : Int)) = true := by simp
                  obtain ⟨mn, hmn⟩ : ∃ mn, (if yi < bst then yi else bst) = mn := ⟨_, rfl⟩
                  have HMN : Hid (mn = min bst yi) := Lib.hid (by rw [← hmn]; split <;> omega)
                  go_upto_region 16 with fail
                  rw [← HWB.out]
                  clear hc0 hc1 hc2 hc3
                  go_wp2_with (go_at_call 87; refine HC1.out.mono ?_; rintro e w5 ⟨rfl, rfl⟩)
                  go_roundg (gk-1)
                  case measure => omega
                  case rel => exact ⟨t+1, by omega, by omega, by go_num, by rw [HST.out, if_pos (by rw [HCC.out]; simp), ← HMN.out], hX1.trans hEB⟩
                · have hi1 : (xq == (r : Int)) = false := by simp [hi]
                  have HX := Lib.hid hi; clear hi
                  go_upto_region 16 with fail
                  rw [← HWB.out]
                  clear hc0 hc1 hc2 hc3
                  go_wp2_with (go_at_call 87; refine HC1.out.mono ?_; rintro e w5 ⟨rfl, rfl⟩)
                  go_roundg (gk-1)
                  case measure => omega
                  case rel => exact ⟨t+1, by omega, by omega, by go_num, by rw [HST.out, if_neg (by rw [HCC.out]; simp [HX.out])], hX1.trans hEB⟩
            · have HBE : Hid (bestOf cc Arc.i (m.a.take t) = bestR m left r S) := Lib.hid (by
                rw [List.take_of_length_le (by omega), ← HCD.out, selN_eq, bestRP_eq HM.out (by rw [HND.out]; exact HSS.out)])
              rw [HBE.out]
              have HNS := Lib.hid (nextRP_same HM.out (by rw [HND.out]; exact HSS.out) left r)
              generalize hbst : bestR m left r S = bst at *
              clear HBE hbst
              obtain ⟨c2, hcc⟩ : ∃ cc, cc = selN2 N left r bst := ⟨_, rfl⟩
              have HCD2 := Lib.hid hcc.symm; clear hcc
              replace hXW := hXW.trans hX1
              have HI9b := Lib.hid (HI9.out.ext hX1)
              have HO8b := Lib.hid (HO8.out.ext hX1)
              have hErb := hEr2
              clear HI9 hEr hEr2
              clear HO8 HIL
              have HI9 := HI9b
              have HO8 := HO8b
              have hEr := hErb
              clear HI9b HO8b hErb
              clear hX1
              generalize W1 = W0 at *
              obtain ⟨W1, rfl⟩ : ∃ W : World, W = wr := ⟨_, rfl⟩
              go_wp2_with fail
              go_loopg [66, 14] m.a.length (fun z i v9 wr => ∃ (t : Nat) (t11 : Value), t ≤ m.a.length ∧ m.a.length ≤ t + z ∧ i = .int .i64 t ∧ t11 = v9 ∧ Ext W1 wr ∧ OInts 3 wr W1.heap.size t11 (((m.a.take t).filter c2).map Arc.t))
              case atStart => exact ⟨0, _, by omega, by omega, rfl, rfl, Ext.refl _, OInts.nil _ _ _⟩
              case round =>
                clear htz ht hlt
                obtain ⟨t, t11, ht, htz, rfl, rfl, hX1, ho11⟩ := hrel
                have hEr2 : Ext wA wr := hEr.trans hX1
                by_cases hlt : t < m.a.length
                · obtain ⟨ba, oa, rfl, hc0, hc1, hc2, hc3⟩ := HA.out t hlt
                  replace hc0 := hEr2.keep hc0
                  replace hc1 := hEr2.keep hc1
                  replace hc2 := hEr2.keep hc2
                  replace hc3 := hEr2.keep hc3
                  have hst := HM.out.arc hlt
                  have hst1 := pick_next hlt c2 Arc.t
                  have HST := Lib.hid hst1; clear hst1
                  have hlen := pick_len (m.a.take t) c2 Arc.t
                  have hlt9 : (m.a.take t).length ≤ m.a.length := by simp; omega
                  generalize arcA m.a t = y at *
                  generalize ((m.a.take t).filter c2).map Arc.t = N2 at *
                  obtain ⟨a9, c9, rfl, _, _, _⟩ := ho11.ints.open_
                  have hlN : N2.length ≤ 1000000 := by have := HM.out.a; omega
                  clear hlen hlt9
                  obtain ⟨yf, yt, yi, yo⟩ := y
                  simp only at hc0 hc1 hc2 hc3 hst
                  obtain ⟨wB, hwB⟩ : ∃ wB, wB = wr.alloc (.cells #[.int .i64 yf, .int .i64 yt, .int .i64 yi, .int .i64 yo] 50) := ⟨_, rfl⟩
                  have hEB : Ext wr wB := by rw [hwB]; exact Ext.alloc _ _
                  have b0 : ∀ W, Ext wB W → W.cell? ⟨wr.heap.size, 0, none⟩ = some (.int .i64 yf) := by rw [hwB]; exact kept_alloc wr _ _ rfl
                  have b1 : ∀ W, Ext wB W → W.cell? ⟨wr.heap.size, 1, none⟩ = some (.int .i64 yt) := by rw [hwB]; exact kept_alloc wr _ _ rfl
                  have b2 : ∀ W, Ext wB W → W.cell? ⟨wr.heap.size, 2, none⟩ = some (.int .i64 yi) := by rw [hwB]; exact kept_alloc wr _ _ rfl
                  have b3 : ∀ W, Ext wB W → W.cell? ⟨wr.heap.size, 3, none⟩ = some (.int .i64 yo) := by rw [hwB]; exact kept_alloc wr _ _ rfl
                  have HWB := Lib.hid hwB; clear hwB
                  have hsB : Ext wB wB := Ext.refl _

                  obtain ⟨q, rfl⟩ : ∃ q : Nat, yt = q := ⟨yt.toNat, by omega⟩
                  have hq : q < n := by have := HN.out; omega
                  have q1 : wB.cell? ⟨g, q, none⟩ = some (.int .i64 (at0 left q)) := (hX1.trans hEB).keep (BInts.cell (l := left) (Blk.ext HLF.out hXW) (i := q) (by rw [HLL.out]; exact hq))
                  have HC1 := Lib.hid (contains_c _ N yf wB (HI9.out.ext (hX1.trans hEB)))
                  have HCC : Hid (c2 ⟨yf, (q : Int), yi, yo⟩ = ((hasB N yf && (at0 left q == (r : Int))) && yi == bst)) := Lib.hid (by rw [← HCD2.out]; rfl)
                  clear hst
                  have hX5 : Ext W1 wB := hX1.trans hEB
                  have hB5 : W1.heap.size ≤ wB.heap.size := hX5.size
                  have HO9 := Lib.hid (ho11.ext hEB); clear ho11
                  generalize hasB N yf = b1_ at *
                  generalize at0 left q = xq at *

                  cases b1_
                  · have HX : Hid True := Lib.hid trivial
                    go_upto_region 23 with fail
                    rw [← HWB.out]
                    clear hc0 hc1 hc2 hc3
                    go_wp2_with (go_at_call 87; refine HC1.out.mono ?_; rintro e w5 ⟨rfl, rfl⟩)
                    go_roundg (gk-1)
                    case measure => omega
                    case rel => exact ⟨t+1, _, by omega, by omega, by go_num, rfl, hX5, by rw [HST.out, if_neg (by rw [HCC.out]; simp [HX.out])]; exact HO9.out⟩
                  · by_cases hi : xq = (r : Int)
                    · subst hi
                      have hi1 : ((r : Int) == (r : Int)) = true := by simp
                      by_cases hj : yi = bst
                      · subst hj
                        have hj1 : (yi == yi) = true := by simp
                        go_upto_region 23 with fail
                        rw [← HWB.out]
                        clear hc0 hc1 hc2 hc3
                        go_wp2_with (first
                          | (go_at_call 87; refine HC1.out.mono ?_; rintro e w5 ⟨rfl, rfl⟩)
                          | (at_builtin; refine wpList_appendInt elInts rfl _ _ rfl rfl rfl HO9.out rfl hB5 (by omega) ?_; intro v6 w6 ho6 hb6))
                        go_roundg (gk-1)
                        case measure => omega
                        case rel => exact ⟨t+1, _, by omega, by omega, by go_num, rfl, hX5.upto hb6 (Nat.le_refl _), by rw [HST.out, if_pos (by rw [HCC.out]; simp)]; exact ho6⟩
                      · have hj1 : (yi == bst) = false := by simp [hj]
                        have HX := Lib.hid hj; clear hj
                        go_upto_region 23 with fail
                        rw [← HWB.out]
                        clear hc0 hc1 hc2 hc3
                        go_wp2_with (go_at_call 87; refine HC1.out.mono ?_; rintro e w5 ⟨rfl, rfl⟩)
                        go_roundg (gk-1)
                        case measure => omega
                        case rel => exact ⟨t+1, _, by omega, by omega, by go_num, rfl, hX5, by rw [HST.out, if_neg (by rw [HCC.out]; simp [HX.out])]; exact HO9.out⟩
                    · have hi1 : (xq == (r : Int)) = false := by simp [hi]
                      have HX := Lib.hid hi; clear hi
                      go_upto_region 23 with fail
                      rw [← HWB.out]
                      clear hc0 hc1 hc2 hc3
                      go_wp2_with (go_at_call 87; refine HC1.out.mono ?_; rintro e w5 ⟨rfl, rfl⟩)
                      go_roundg (gk-1)
                      case measure => omega
                      case rel => exact ⟨t+1, _, by omega, by omega, by go_num, rfl, hX5, by rw [HST.out, if_neg (by rw [HCC.out]; simp [HX.out])]; exact HO9.out⟩
                · rw [List.take_of_length_le (by omega), ← HCD2.out, selN2_eq] at ho11
                  obtain ⟨N2, hN2⟩ : ∃ N2, N2 = (m.a.filter fun a => selRP left r N a && a.i == bst).map Arc.t := ⟨_, rfl⟩
                  have HNS2 : Hid (SameS n N2 (nextR m left r S)) := Lib.hid (by rw [hN2, ← HND.out]; exact HNS.out)
                  rw [← hN2] at ho11
                  clear hN2 HNS
                  have HO11 := Lib.hid ho11
                  obtain ⟨a9, c9, rfl, _, _, _⟩ := ho11.ints.open_
                  clear ho11
                  generalize nextR m left r S = S2 at *
                  have hX2r : Ext w2 wr := hXW.trans hX1
                  have hsz : w2.heap.size ≤ wr.heap.size := hX2r.size
                  have HO8b := Lib.hid (HO8.out.ext hX1)
                  go_wp2_with (at_builtin; refine wpList_append1G elInts rfl _ _ rfl rfl rfl HO8b.out rfl rfl hsz (by omega) (by omega) ?_; intro g' cap' w6 ho6 hg6 hb6)
                  go_roundg (g1-1)
                  case measure => omega
                  case rel => exact ⟨r, _, _, L ++ [bst], N2, S2, by omega, by omega, by go_num, rfl, rfl, hX2r.upto (Below.of_grownBy hg6 HO8b.out hsz) (Nat.le_refl _), by unfold OInts; rw [ints_append, List.length_append]; simpa [ints] using ho6, by rw [List.length_append]; simp; omega, (oints_stay HO11.out HO8.out (Nat.le_refl _) hg6).ints, Lib.hid ⟨HNS2.out, by rw [List.append_assoc]; exact HNX.out⟩⟩
        · obtain rfl : r = 0 := by omega
          have HEND : Hid (L = shoIn m) := Lib.hid (by rw [← HGO.out.2]; simp [readGo])
          have HFI := Lib.hid (first_c _ _ _ (.slice (some ⟨g, 0, none⟩) n n) m L wr (HR.out.ext hEr) HM.out HIL.out (by omega))
          go_wp2_with fail
          refine HFI.out.mono ?_; rintro e w7 ⟨v, rfl, hiv, hx7⟩
          have HIV := Lib.hid hiv; clear hiv
          go_wp2_with fail
          ((try simp only [Exit.inBlock, Exit.then]); refine bodyPost_ret (results_tmp4 rfl _ _ _) rfl ?_)
          exact ⟨_, _, by rw [HST0.out, HVZ.out]; rfl, by unfold shoI; rw [if_pos HST0.out, ← HEND.out]; exact HIL.out.ext hx7, by unfold shoO shoOut; rw [if_pos HST0.out, ← HEND.out]; exact HIV.out, hE0.trans (hEr.trans hx7)⟩
  · have HSF : Hid (shoB m = false) := Lib.hid (by unfold shoB; rw [decide_eq_false hv]; rfl)
    have hk : (validM m != 0) = true := by simp [hv]
    obtain ⟨k, hkv⟩ : ∃ k, validM m = k := ⟨_, rfl⟩
    have HKV := Lib.hid hkv
    rw [hkv] at HV hk
    clear hv hkv
    go_enter Try.func49, Try.ntmps49
    go_wp2_with fail
    rw [← HW.out]
    refine HV.out.mono ?_; rintro e w1 ⟨rfl, hx1⟩
    go_wp2_with fail
    ((try simp only [Exit.inBlock, Exit.then]); refine bodyPost_ret (results_tmp4 rfl _ _ _) rfl ?_)
    exact RSho.bad HKV.out HSF.out rfl (hE0.trans hx1)
end Go.Proofs.Ytodhmkbkcjpnkaa
