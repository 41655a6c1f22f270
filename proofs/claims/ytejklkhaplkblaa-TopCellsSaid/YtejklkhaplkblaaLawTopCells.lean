/- TopCells: for every input the call returns true. No condition. -/
import Derived.Test.YtejklkhaplkblaaTopAll
import Derived.Deep.CutRange
import Derived.Deep.CutBlock
namespace Go.Proofs.Ytejklkhaplkblaa
open Go.RowKit Go.Shelf
set_option linter.unusedVariables false
theorem keptP (w : World) (a b : Value) {i : Nat} {v : Value} (h : #[a, b][i]? = some v) : ∀ W, Ext (w.alloc (.cells #[a, b] 25)) W → W.cell? ⟨w.heap.size, i, none⟩ = some v := fun W hW => hW.keep (alloc_cell w #[a, b] 25 h)
set_option maxHeartbeats 8000000 in
set_option maxRecDepth 100000 in
theorem topCells_c (sv ev : Value) (sizes : List Int) (es : List Ent) (i j : Int) (w : World) (hp : Par w sv ev sizes es) (hi : (Lit.int .i64 i).wf = true) (hj : (Lit.int .i64 j).wf = true) :
    Calls Try.prog 3 #[.agg #[sv, ev], .int .i64 i, .int .i64 j] w (RV (.bool true) w) := by
  obtain ⟨wA, hwA⟩ : ∃ wA, wA = w.alloc (.cells #[sv, ev] 25) := ⟨_, rfl⟩
  have hE0 : Ext w wA := by rw [hwA]; exact Ext.alloc _ _
  have zA : wA.heap.size = w.heap.size + 1 := by rw [hwA]; simp
  have k0 : ∀ W, Ext wA W → W.cell? ⟨w.heap.size, 0, none⟩ = some sv := by rw [hwA]; exact keptP w _ _ rfl
  have k1 : ∀ W, Ext wA W → W.cell? ⟨w.heap.size, 1, none⟩ = some ev := by rw [hwA]; exact keptP w _ _ rfl
  obtain ⟨ae, ce, rfl, hle, hme, _⟩ := hp.e.open_
  have HP := Lib.hid (hp.ext hE0)
  obtain ⟨wB, hwB⟩ : ∃ wB, wB = wA.alloc (.cells #[.int .i64 2, .int .i64 2] 3) := ⟨_, rfl⟩
  have zB : wB.heap.size = w.heap.size + 2 := by rw [hwB]; simp [zA]
  have xB : Ext wA wB := by rw [hwB]; exact Ext.alloc _ _
  obtain ⟨wC, hwC⟩ : ∃ wC, wC = wB.alloc (.cells #[.int .i64 0, .int .i64 0] 3) := ⟨_, rfl⟩
  have zC : wC.heap.size = w.heap.size + 3 := by rw [hwC]; simp [zB]
  have xC : Ext wB wC := by rw [hwC]; exact Ext.alloc _ _
  obtain ⟨wD, hwD⟩ : ∃ wD, wD = wC.alloc (.cells #[.int .i64 1, .int .i64 0] 3) := ⟨_, rfl⟩
  have zD : wD.heap.size = w.heap.size + 4 := by rw [hwD]; simp [zC]
  have xD : Ext wC wD := by rw [hwD]; exact Ext.alloc _ _
  obtain ⟨wE, hwE⟩ : ∃ wE, wE = wD.alloc (.cells #[.slice (some ⟨w.heap.size + 2, 0, none⟩) 2 2, .slice (some ⟨w.heap.size + 3, 0, none⟩) 2 2] 22) := ⟨_, rfl⟩
  have xE : Ext wD wE := by rw [hwE]; exact Ext.alloc _ _
  have e0 : Ints wE (.slice (some ⟨w.heap.size + 1, 0, none⟩) 2 2) [2, 2] := by
    have h : Ints wB (.slice (some ⟨w.heap.size + 1, 0, none⟩) 2 2) [2, 2] := by rw [hwB]; exact ints_two zA
    exact h.ext (xC.trans (xD.trans xE))
  have e1 : Ints wE (.slice (some ⟨w.heap.size + 2, 0, none⟩) 2 2) [0, 0] := by
    have h : Ints wC (.slice (some ⟨w.heap.size + 2, 0, none⟩) 2 2) [0, 0] := by rw [hwC]; exact ints_two zB
    exact h.ext (xD.trans xE)
  have e2 : Ints wE (.slice (some ⟨w.heap.size + 3, 0, none⟩) 2 2) [1, 0] := by
    have h : Ints wD (.slice (some ⟨w.heap.size + 3, 0, none⟩) 2 2) [1, 0] := by rw [hwD]; exact ints_two zC
    exact h.ext xE
  have e3 : Rows wE (.slice (some ⟨w.heap.size + 4, 0, none⟩) 2 2) [[0, 0], [1, 0]] := by
    refine ⟨some ⟨w.heap.size + 4, 0, none⟩, 2, rfl, Nat.le_refl _, by unfold maxLen; omega, fun i hi => ⟨_, _, rfl, ?_⟩⟩
    have c0 := alloc_cell wD #[.slice (some ⟨w.heap.size + 2, 0, none⟩) 2 2, .slice (some ⟨w.heap.size + 3, 0, none⟩) 2 2] 22 (i := 0) rfl
    have c1 := alloc_cell wD #[.slice (some ⟨w.heap.size + 2, 0, none⟩) 2 2, .slice (some ⟨w.heap.size + 3, 0, none⟩) 2 2] 22 (i := 1) rfl
    rw [← hwE, zD] at c0 c1
    match i, hi with
    | 0, _ => exact ⟨_, c0, e1⟩
    | 1, _ => exact ⟨_, c1, e2⟩
  have HHU := Lib.hid (Hull_c _ (.slice none 0 0) _ [2, 2] [] [[0, 0], [1, 0]] wE ⟨e0, ⟨none, 0, rfl, Nat.le_refl _, by unfold maxLen; omega, fun i hi => by simp at hi⟩⟩ e3)
  rw [show hullK [2, 2] [] [[0, 0], [1, 0]] = 0 by decide +kernel, show hullV [2, 2] [] [[0, 0], [1, 0]] = [-1, 0] by decide +kernel] at HHU
  have hXE : Ext wA wE := xB.trans (xC.trans (xD.trans xE))
  clear e0 e1 e2 e3 xB xC xD xE hp
  have HW := Lib.hid (show wE = ((((w.alloc (.cells #[sv, .slice ae es.length ce] 25)).alloc (.cells #[.int .i64 2, .int .i64 2] 3)).alloc (.cells #[.int .i64 0, .int .i64 0] 3)).alloc (.cells #[.int .i64 1, .int .i64 0] 3)).alloc (.cells #[.slice (some ⟨w.heap.size + 2, 0, none⟩) 2 2, .slice (some ⟨w.heap.size + 3, 0, none⟩) 2 2] 22) by rw [hwE, hwD, hwC, hwB, hwA])
  clear hwE hwD hwC hwB hwA zA zB zC zD
  go_enter Try.func3, Try.ntmps3
  go_wp2_with fail
  rw [← HW.out]
  refine HHU.out.mono ?_; rintro e w1 ⟨v1, rfl, hv1, hx1⟩
  have hX1 : Ext wA w1 := hXE.trans hx1
  have hq := Ext.alloc w1 (.cells #[.int .i64 (-1), .int .i64 0] 3)
  have HS := Lib.hid (sameInts_c v1 _ [-1, 0] [-1, 0] _ (Ints.ext hv1 hq) (ints_two (g := w1.heap.size) rfl))
  rw [sameIntsB_iff, show (([-1, 0] : List Int) == [-1, 0]) = true from by decide] at HS
  obtain ⟨a1, c1, rfl, _⟩ := Ints.open_ hv1
  clear hv1 hx1 hXE
  go_wp2_with fail
  refine HS.out.mono ?_; rintro e w2 ⟨rfl, m2, rfl⟩
  have hX2 := hX1.trans (hq.trans (Ext.drewN _ m2))
  generalize (w1.alloc (.cells #[.int .i64 (-1), .int .i64 0] 3)).drewN m2 = w2 at *
  clear hq hX1
  go_wp2_with fail
  refine (long_c sv _ sizes es w2 (HP.out.ext hX2)).mono ?_; rintro e w3 ⟨rfl, hx3⟩
  have hX3 := hX2.trans hx3
  cases hlb : longB sizes es
  rotate_left
  · go_wp2_with fail
    go_ret
    exact RV.bool rfl (hE0.trans hX3)
  clear hlb hx3 hX2
  go_wp2_with fail
  refine (Cells_c sv _ sizes es w3 (HP.out.ext hX3)).mono ?_; rintro e w4 ⟨v4, rfl, hv4, hx4⟩
  have hX4 := hX3.trans hx4
  by_cases hval : validI sizes es = 0
  rotate_left
  · have hk : (validI sizes es != 0) = true := by simp [hval]
    rw [if_neg hval] at hv4
    generalize validI sizes es = k at *
    obtain ⟨a4, c4, rfl, _⟩ := Rows.open_ (show Rows w4 v4 [] from hv4)
    clear hval hv4
    go_wp2_with fail
    go_ret
    exact RV.bool rfl (hE0.trans hX4)
  rw [hval]
  rw [if_pos hval] at hv4
  have HV0 := Lib.hid hval
  have HFI := Lib.hid (fun W (hW : Ext wA W) => Fill_c sv _ sizes es W (HP.out.ext hW))
  have HCL := Lib.hid (fun W (hW : Ext wA W) => Clashes_c sv _ sizes es W (HP.out.ext hW))
  have HEM := Lib.hid (fun W (hW : Ext wA W) => Empty_c sv _ sizes es W (HP.out.ext hW))
  have HNE := Lib.hid (fun W (hW : Ext wA W) => Needless_c sv _ sizes es W (HP.out.ext hW))
  have HRE := Lib.hid (fun W (hW : Ext wA W) => Reduce_c sv _ sizes es W (HP.out.ext hW))
  rw [hval, if_pos rfl] at HFI HCL HEM HNE
  rw [hval] at HRE
  clear hval
  have HVP := Lib.hid (validI_zero HV0.out)
  have hcnt := cells_count HVP.out.ok
  have HRW := Lib.hid (show Rows w4 v4 (cellsOf sizes) from hv4)
  obtain ⟨a4, c4, rfl, _, _, HL4⟩ := Rows.open_ (show Rows w4 v4 (cellsOf sizes) from hv4)
  clear hv4 hX3
  have HFL : Hid ((fillL sizes es).length = (cellsOf sizes).length) := Lib.hid (by simp [fillL])
  have HPA := Lib.hid (part_all HVP.out (cellsOf sizes))
  have HHS := Lib.hid (fun k => hsum_le (cellsOf sizes) es k)
  have HHC : Hid (∀ (f : Nat) W, f ≤ 9 → Ext wA W → Calls Try.prog 13 #[.agg #[sv, .slice ae es.length ce], .int .i64 (f : Int)] W (R2 (isRows ((cellsOf sizes).filter (homeB es (f : Int)))) 0 W)) := Lib.hid (fun f W hf hW => by
    have := Homes_c sv _ sizes es (f : Int) W (HP.out.ext hW)
    rw [show homesK sizes es (f : Int) = 0 by rw [homesK, if_pos HV0.out, if_pos (by simp; omega)], if_pos rfl] at this
    exact this)
  have HSU : Hid (∀ k, hsum (cellsOf sizes) es (k + 1) = hsum (cellsOf sizes) es k + ((cellsOf sizes).filter (homeB es (k : Int))).length) := Lib.hid (fun _ => rfl)
  have HMA : Hid (∀ (k : Nat) (vc : Value) W, k < (cellsOf sizes).length → Ext wA W → Ints W vc ((cellsOf sizes)[k]?.getD []) → Calls Try.prog 14 #[.agg #[sv, .slice ae es.length ce], vc] W (R2 (isInts (sel es.length (matchB es ((cellsOf sizes)[k]?.getD [])))) 0 W)) := Lib.hid (fun k vc W hk hW hi => by
    have := Matches_c sv _ vc sizes es _ W (HP.out.ext hW) hi
    rw [cell_cK HVP.out hk, if_pos rfl] at this
    exact this)
  have HDE : Hid (∀ (k : Nat) (vc : Value) W, k < (cellsOf sizes).length → Ext wA W → Ints W vc ((cellsOf sizes)[k]?.getD []) → Calls Try.prog 15 #[.agg #[sv, .slice ae es.length ce], vc] W (RV (.tuple #[.int .i64 (max (decidesI es ((cellsOf sizes)[k]?.getD [])) 0), .bool (decide (0 ≤ decidesI es ((cellsOf sizes)[k]?.getD []))), .int .i64 0]) W)) := Lib.hid (fun k vc W hk hW hi => by
    have := Decides_c sv _ vc sizes es _ W (HP.out.ext hW) hi
    rw [cell_cK HVP.out hk, if_pos rfl] at this
    simpa using this)
  have HGE := Lib.hid (fun k (hk : k < (cellsOf sizes).length) => fill_ge HVP.out hk)
  have HMO : Hid (∀ (c : List Int) (a : Nat) W, 0 ≤ decidesI es c → a < (sel es.length (matchB es c)).length → Ext wA W → Calls Try.prog 17 #[.agg #[sv, .slice ae es.length ce], .int .i64 (max (decidesI es c) 0), .int .i64 ((sel es.length (matchB es c))[a]?.getD 0)] W (RV (.tuple #[.bool ((sel es.length (matchB es c))[a]?.getD 0 != max (decidesI es c) 0), .int .i64 0]) W)) := Lib.hid (fun c a W h0 ha hW => by
    obtain ⟨e1, e2⟩ := more_dec HV0.out h0 ha
    have := IsMore_c sv _ sizes es (max (decidesI es c) 0) ((sel es.length (matchB es c))[a]?.getD 0) W (HP.out.ext hW)
    rw [e1, e2] at this; exact this)
  have HHD : Hid (∀ c, decide (0 ≤ decidesI es c) = true → hasB (sel es.length (matchB es c)) (max (decidesI es c) 0) = true) := Lib.hid (fun c h => has_decides h)
  generalize hCL : cellsOf sizes = L at *
  have HCE := Lib.hid hCL; clear hCL
  go_wp2_with fail
  refine (HFI.out w4 hX4).mono ?_; rintro e w5 ⟨v5, rfl, hv5, hx5⟩
  have hX5 := hX4.trans hx5
  have HI5 := Lib.hid (show Ints w5 v5 (fillL sizes es) from hv5)
  obtain ⟨a5, c5, rfl, _, _, HF5⟩ := Ints.open_ (show Ints w5 v5 (fillL sizes es) from hv5)
  rw [HFL.out]
  clear hv5
  go_wp2_with fail
  refine (HCL.out w5 hX5).mono ?_; rintro e w6 ⟨v6, rfl, hv6, hx6⟩
  have hX6 := hX5.trans hx6
  obtain ⟨a6, c6, rfl, _⟩ := Rows.open_ (show Rows w6 v6 _ from hv6)
  clear hv6
  go_wp2_with fail
  refine (HEM.out w6 hX6).mono ?_; rintro e w7 ⟨v7, rfl, hv7, hx7⟩
  have hX7 := hX6.trans hx7
  obtain ⟨a7, c7, rfl, _⟩ := Rows.open_ (show Rows w7 v7 _ from hv7)
  clear hv7
  have hl100 : decide ((L.length : Int) > 100) = false := by simp; omega
  have hl100b : decide ((100 : Int) < (L.length : Int)) = false := by simp; omega
  have hll : ((L.length : Int) != (L.length : Int)) = false := by simp
  have hX57 : Ext w5 w7 := hx6.trans hx7
  have hX47 : Ext w4 w7 := hx5.trans hX57
  generalize hNC : (L.filter (clashB es)).length = nc at *
  generalize hNM : (L.filter (emptyB es)).length = nm at *
  clear hNC hNM hX4 hX5 hX6 hx5 hx6 hx7 hx4
  go_wp2_with fail
  go_loopg [17, 16] 10 (fun z i v wr => ∃ f : Nat, f ≤ 10 ∧ 10 ≤ f + z ∧ i = .int .i64 f ∧ v = .int .i64 (hsum L es f : Nat) ∧ Ext w7 wr)
  case atStart => exact ⟨0, by omega, by omega, rfl, rfl, Ext.refl _⟩
  case round =>
    obtain ⟨f, hf, hfz, rfl, rfl, hXr⟩ := hrel
    have hEr : Ext wA wr := hX7.trans hXr
    have hhb := HHS.out f
    by_cases hlf : f < 10
    · have hfd : decide ((f : Int) ≤ 9) = true := by simp; omega
      have hsn := HSU.out f
      have hfl := List.length_filter_le (homeB es (f : Int)) L
      have hff : f * L.length ≤ 10 * 27 := Nat.mul_le_mul (by omega) hcnt.2
      generalize hHF : hsum L es f = hs0 at *
      generalize hHF2 : hsum L es (f + 1) = hs1 at *
      have HSN := Lib.hid hsn
      go_wp2_with fail
      refine (HHC.out f wr (by omega) hEr).mono ?_; rintro e w8 ⟨v8, rfl, hv8, hx8⟩
      obtain ⟨a8, c8, rfl, _⟩ := Rows.open_ (show Rows w8 v8 _ from hv8)
      have HH2 := Lib.hid hHF2
      clear hv8 hHF hHF2
      generalize (L.filter (homeB es (f : Int))).length = nf at *
      have hwn : IntKind.i64.wrap ((hs0 : Int) + (nf : Int)) = ((hs1 : Nat) : Int) := by rw [hsn, Int.natCast_add]; exact IntWalk.i64_in _ (by omega)
      clear hsn
      go_wp2_with fail
      go_roundg (gk-1)
      case measure => omega
      case rel => exact ⟨f+1, by omega, by omega, by go_num, by rw [HH2.out], hXr.trans hx8⟩
    · have hf10 : f = 10 := by omega
      subst hf10
      have hfd : decide (((10 : Nat) : Int) ≤ 9) = false := by decide
      have hpa := HPA.out
      generalize hHF : hsum L es 10 = h10 at *
      have hw1 : IntKind.i64.wrap ((h10 : Int) + (nc : Int)) = ((h10 + nc : Nat) : Int) := by rw [Int.natCast_add]; exact IntWalk.i64_in _ (by omega)
      have hw2 : IntKind.i64.wrap (((h10 + nc : Nat) : Int) + (nm : Int)) = (L.length : Int) := by rw [← hpa, Int.natCast_add, Int.natCast_add]; exact IntWalk.i64_in _ (by omega)
      have hw2b : IntKind.i64.wrap ((h10 : Int) + (nc : Int) + (nm : Int)) = (L.length : Int) := by rw [← hpa, Int.natCast_add, Int.natCast_add]; exact IntWalk.i64_in _ (by omega)
      have HPB := Lib.hid hpa
      clear hpa hHF
      have hX4r : Ext w4 wr := hX47.trans hXr
      have hX5r : Ext w5 wr := hX57.trans hXr
      clear hXr
      obtain ⟨W0, rfl⟩ : ∃ W : World, W = wr := ⟨_, rfl⟩
      go_wp2_with fail
      go_loopg [20] L.length (fun z i wr => ∃ k : Nat, k ≤ L.length ∧ L.length ≤ k + z ∧ i = .int .i64 k ∧ Ext W0 wr)
      case atStart => exact ⟨0, by omega, by omega, rfl, Ext.refl _⟩
      case round =>
        obtain ⟨k, hk, hkz, rfl, hXk⟩ := hrel
        obtain ⟨g1, rfl⟩ : ∃ g : Nat, g = gk := ⟨_, rfl⟩
        have hEk : Ext wA wr := hEr.trans hXk
        have hX4k : Ext w4 wr := hX4r.trans hXk
        have hX5k : Ext w5 wr := hX5r.trans hXk
        by_cases hlk : k < L.length
        · obtain ⟨b4, o4, rfl, u4, hc4, hi4⟩ := HL4.out k hlk
          obtain ⟨b5, o5, rfl, hc5⟩ := HF5.out k (by rw [HFL.out]; exact hlk)
          have HI4 := Lib.hid hi4; clear hi4
          have hge := HGE.out k hlk
          generalize (fillL sizes es)[k]?.getD 0 = fk at *
          obtain ⟨c, hc⟩ : ∃ c, c = L[k]?.getD [] := ⟨_, rfl⟩
          have HMK := Lib.hid (fun vc W (hW : Ext wA W) (hi : Ints W vc (L[k]?.getD [])) => HMA.out k vc W hlk hW hi)
          have HDK := Lib.hid (fun vc W (hW : Ext wA W) (hi : Ints W vc (L[k]?.getD [])) => HDE.out k vc W hlk hW hi)
          rw [← hc] at HMK HDK HI4 hge
          have HMC := Lib.hid (fun a W h0 ha hW => HMO.out c a W h0 ha hW)
          have HHC2 := Lib.hid (HHD.out c)
          clear hc
          obtain ⟨isb, hisb⟩ : ∃ b, decide (0 ≤ decidesI es c) = b := ⟨_, rfl⟩
          obtain ⟨ML, hML⟩ : ∃ m, sel es.length (matchB es c) = m := ⟨_, rfl⟩
          obtain ⟨nD, hnD⟩ : ∃ n, max (decidesI es c) 0 = n := ⟨_, rfl⟩
          have HMC2 := Lib.hid (fun (h : isb = true) a W ha hW => HMC.out a W (by rw [h] at hisb; simpa using hisb) ha hW)
          rw [hML] at HMK
          rw [hnD, hisb] at HDK
          rw [hML, hnD] at HMC2
          rw [hML, hnD, hisb] at HHC2
          rw [hisb] at hge
          clear HMC hisb hML hnD
          have HMC := HMC2
          clear HMC2
          obtain ⟨W1, rfl⟩ : ∃ W : World, W = wr := ⟨_, rfl⟩
          go_wp2_with fail
          refine wp_region_peek (Ext W1) (fun _ => True) [] [.look 0, .look 1, .look 2, .look 3, .look 4, .go 5, .look 6, .look 7, .look 8, .look 9, .look 10] (by kernel_rfl) (by kernel_rfl) (by intro c a d v w h; cases d <;> exact h) ?_
          have hd1 : Ext W1 { W1 with drawn := W1.drawn + 1 } := drawn_ext W1
          have hs : ∀ s : InC (Ext W1), Ext wA s.w := fun s => hEk.trans s.h
          have q0 := fun s : InC (Ext W1) => (hX4k.trans s.h).keep hc4
          have hE1 : Ext wA { W1 with drawn := W1.drawn + 1 } := hEk.trans hd1
          generalize { W1 with drawn := W1.drawn + 1 } = W2 at *
          iterate 5 (refine wpPeek_look rfl ‹_› (fun K hK => ?_); go_simp; first | (refine hK _ ?_; clear hK K) | (refine ⟨_, fun _ => rfl, hK _ ?_⟩; clear hK K))
          refine wpPeek_go rfl rfl (fun K hK => ?_)
          go_wp2_with fail
          refine (HMK.out u4 W2 hE1 (HI4.out.ext (hX4k.trans hd1))).mono ?_; rintro e W3 ⟨vm, rfl, hvm, hx8⟩
          have hd2 : Ext W1 W3 := hd1.trans hx8
          have HIM := Lib.hid (show Ints W3 vm ML from hvm)
          obtain ⟨am, cm, rfl, _, _, HMM⟩ := Ints.open_ (show Ints W3 vm ML from hvm)
          clear hvm
          go_wp2_with fail
          refine ⟨KeepE.of (fun h => h.trans hx8) (fun _ => trivial), ?_⟩
          iterate 5 (refine wpPeek_look rfl ‹_› (fun K hK => ?_); go_simp; first | (refine hK _ ?_; clear hK K) | (refine ⟨_, fun _ => rfl, hK _ ?_⟩; clear hK K))
          refine wpPeek_nil ?_
          clear hs q0 hE1 hd1
          have hE3 : Ext wA W3 := hEk.trans hd2
          go_wp2_with fail
          have hs : ∀ s : Later W3, Ext wA s.w := fun s => hE3.trans s.ext
          have q0 := fun s : Later W3 => (hX4k.trans (hd2.trans s.ext)).keep hc4
          have HDL := Lib.hid (fun s : Later W3 => HDK.out u4 s.w (hE3.trans s.ext) (HI4.out.ext (hX4k.trans (hd2.trans s.ext))))
          refine wp_region_later (by kernel_rfl) (by kernel_rfl) ?_
          repeat (go_big_quiet_step ((first | (go_at_call 15; first | with_reducible exact Later.call (HDL.out _)))))
          refine wpQuiet_nil ?_
          intro W4 hw'
          obtain ⟨⟨_, hx9⟩, rfl⟩ := hw'
          clear hs q0
          have hE4 : Ext wA W4 := hE3.trans hx9
          have hX14 : Ext W1 W4 := hd2.trans hx9
          have hc5b := (hX5k.trans hX14).keep hc5
          have hge2 : decide (fk ≥ 0) = isb := hge
          have hib : (isb != isb) = false := by simp
          have HHA := Lib.hid (has_c _ ML nD W4 (HIM.out.ext hx9))
          cases isb
          · go_wp2_with fail
            go_loopg [26] 0 (fun z i wr => i = .int .i64 0 ∧ wr = W4)
            case atStart => exact ⟨rfl, rfl⟩
            case round =>
              obtain ⟨rfl, rfl⟩ := hrel
              go_wp2_with fail
              all_goals
                go_roundg (g1-1)
                case measure => omega
                case rel => exact ⟨k+1, by omega, by omega, by go_num, hXk.trans hX14⟩
          · rw [HHC2.out rfl] at HHA
            go_wp2_with fail
            refine HHA.out.mono ?_; rintro e W5 ⟨rfl, rfl⟩
            go_wp2_with fail
            go_loopg [26] ML.length (fun z i wr => ∃ a : Nat, a ≤ ML.length ∧ ML.length ≤ a + z ∧ i = .int .i64 a ∧ Ext W4 wr)
            case atStart => exact ⟨0, by omega, by omega, rfl, Ext.refl _⟩
            case round =>
              obtain ⟨a, ha, haz, rfl, hXa⟩ := hrel
              by_cases hla : a < ML.length
              · obtain ⟨bm, om, rfl, hcm⟩ := HMM.out a hla
                replace hcm := (hx9.trans hXa).keep hcm
                have HML := Lib.hid (fun W (hW : Ext wA W) => HMC.out (by first | exact rfl | exact trivial) a W hla hW)
                generalize ML[a]?.getD 0 = ma at *
                have hEa : Ext wA wr := hE4.trans hXa
                obtain ⟨W6, rfl⟩ : ∃ W : World, W = wr := ⟨_, rfl⟩
                have hs : ∀ s : Later W6, Ext wA s.w := fun s => hEa.trans s.ext
                have q0 := fun s : Later W6 => s.ext.keep hcm
                have HMJ := Lib.hid (fun s : Later W6 => HML.out s.w (hEa.trans s.ext))
                have hla2 : decide ((a : Int) < (ML.length : Int)) = true := by simp; exact hla
                obtain ⟨bb, hbb⟩ : ∃ b, (ma != nD) = b := ⟨_, rfl⟩
                rw [hbb] at HMJ
                have hbb2 : (bb != bb) = false := by simp
                go_wp2_with fail
                refine wp_region_later (by kernel_rfl) (by kernel_rfl) ?_
                repeat (go_big_quiet_step ((first | (go_at_call 17; first | with_reducible exact Later.call (HMJ.out _)))))
                refine wpQuiet_nil ?_
                intro W7 hw'
                obtain ⟨⟨_, hx10⟩, rfl⟩ := hw'
                clear hs q0
                have hcm2 := hx10.keep hcm
                clear hcm
                go_wp2_with fail
                go_roundg (gk-1)
                case measure => omega
                case rel => exact ⟨a+1, by omega, by omega, by go_num, hXa.trans hx10⟩
              · have hla2 : decide ((a : Int) < (ML.length : Int)) = false := by simp; omega
                go_wp2_with fail
                go_roundg (g1-1)
                case measure => omega
                case rel => exact ⟨k+1, by omega, by omega, by go_num, hXk.trans (hX14.trans hXa)⟩
        · have HSW := Lib.hid (Swap_c sv _ sizes es i j wr (HP.out.ext hEk))
          have HRF : Hid (ValidP sizes (redE sizes es) ∧ fillL sizes (redE sizes es) = fillL sizes es) := Lib.hid (by
            have := red_fill sizes (fillL sizes es) es.length es (Nat.le_refl _) HVP.out rfl
            unfold redE; rw [if_pos HV0.out]; exact this)
          have HRS : Hid (redS sizes es = sizes) := Lib.hid (by unfold redS; rw [if_pos HV0.out])
          have HSK : Hid (sameK (redS sizes es) (redE sizes es) sizes es = 0) := Lib.hid (by
            unfold sameK; rw [HRS.out, if_pos (validI_of HRF.out.1), if_pos HV0.out, if_pos (sameIntsB_refl _)])
          have HSV : Hid (sameV (redS sizes es) (redE sizes es) sizes es = true) := Lib.hid (by
            unfold sameV; rw [HRS.out, HRF.out.2, decide_eq_true (validI_of HRF.out.1), decide_eq_true HV0.out, sameIntsB_refl, sameIntsB_refl]; rfl)
          have HRL := Lib.hid (redE_len sizes es)
          have HZ : Hid (nK sizes es i j = 0 → ValidP sizes (swE sizes es i j) ∧ swS sizes es i j = sizes ∧ fillL sizes (swE sizes es i j) = fillL sizes es) := Lib.hid (fun h => by
            obtain ⟨V, a, b, rfl, rfl, ha, hb⟩ := nK_zero h
            rw [swE, if_pos h, swS, if_pos h]
            exact ⟨swap_valid V ha hb, rfl, swap_fill ha hb⟩)
          generalize nK sizes es i j = kk at *
          generalize swS sizes es i j = S2 at *
          generalize swE sizes es i j = E2 at *
          have hlk2 : ¬ (k : Int) < (L.length : Int) := by omega
          obtain ⟨W1, rfl⟩ : ∃ W : World, W = wr := ⟨_, rfl⟩
          go_wp2_with fail
          refine HSW.out.mono ?_; rintro e w9 ⟨s2, e2, rfl, hov, hoe, hx9⟩
          obtain ⟨a2, c2, rfl, _⟩ := hov.ints.open_
          obtain ⟨a3, c3, rfl, _⟩ := hoe.ents.open_
          have HQ1 := Lib.hid (show Par w9 _ _ _ _ from ⟨hov.ints, hoe.ents⟩)
          clear hov hoe
          have hA5 := Ext.alloc w9 (.cells #[.slice a2 S2.length c2, .slice a3 E2.length c3] 25)
          have hbx := BoxP.new w9 (.slice a2 S2.length c2) (.slice a3 E2.length c3) rfl
          have z0 := hbx.c0
          have z1 := hbx.c1
          have hXc := hEk.trans (hx9.trans hA5)
          by_cases hkk : kk = 0
          · have HZ2 := Lib.hid (HZ.out hkk)
            subst hkk
            have HF2 := Lib.hid (by have := Fill_c _ _ S2 E2 _ (HQ1.out.ext hA5); rw [HZ2.out.2.1, validI_of HZ2.out.1, if_pos rfl, HZ2.out.2.2] at this; exact this)
            rw [HZ2.out.2.1] at hbx z0 z1 hA5 hXc ⊢
            go_wp2_with fail
            refine HF2.out.mono ?_; rintro e wa ⟨va, rfl, hva, hxa⟩
            have hXa := hXc.trans hxa
            have HSI := Lib.hid (sameInts_c va _ (fillL sizes es) (fillL sizes es) wa hva (HI5.out.ext (hX5k.trans (hx9.trans (hA5.trans hxa)))))
            rw [sameIntsB_refl, HFL.out] at HSI
            obtain ⟨aa, ca, rfl, _⟩ := Ints.open_ (show Ints wa va _ from hva)
            rw [HFL.out] at HSI ⊢
            clear hva z0 z1 hbx
            go_wp2_with fail
            refine HSI.out.mono ?_; rintro e wb ⟨rfl, mb, rfl⟩
            have hXb := hXa.trans (Ext.drewN wa mb)
            generalize wa.drewN mb = wb at *
            clear hXc
            have hXc := hXb
            go_wp2_with fail
            refine (HRE.out _ hXc).mono ?_; rintro e wm ⟨s3, e3, rfl, hov3, hoe3, hx3⟩
            obtain ⟨as3, cs3, rfl, _⟩ := hov3.ints.open_
            obtain ⟨ae3, ce3, rfl, _⟩ := hoe3.ents.open_
            have HQ3 := Lib.hid (show Par wm _ _ _ _ from ⟨hov3.ints, hoe3.ents⟩)
            clear hov3 hoe3
            have hA3 := Ext.alloc wm (.cells #[.slice as3 (redS sizes es).length cs3, .slice ae3 (redE sizes es).length ce3] 25)
            have hb3 := BoxP.new wm (.slice as3 (redS sizes es).length cs3) (.slice ae3 (redE sizes es).length ce3) rfl
            have m0 := hb3.c0
            have m1 := hb3.c1
            have hXm := hXc.trans (hx3.trans hA3)
            have HSA := Lib.hid (Same_c _ _ _ _ _ _ _ _ _ (HQ3.out.ext hA3) (HP.out.ext hXm))
            rw [HSK.out, HSV.out] at HSA
            go_wp2_with fail
            refine HSA.out.mono ?_; rintro e wn ⟨vn, rfl, hvn, hxn⟩
            obtain rfl : vn = .bool true := hvn
            have m0 := hxn.keep m0
            have m1 := hxn.keep m1
            have hb3 := hb3.ext hxn
            have hXn := hXm.trans hxn
            by_cases hlen : (redE sizes es).length = es.length
            · have HRN := Lib.hid (red_none HV0.out hlen)
              have hl1 : decide (((redE sizes es).length : Int) > (es.length : Int)) = false := by simp; omega
              have hl2 : (((redE sizes es).length : Int) == (es.length : Int)) = true := by rw [beq_iff_eq]; omega
              have hl1b : decide ((es.length : Int) < ((redE sizes es).length : Int)) = false := by simp; omega
              have HLEN := Lib.hid hlen
              have HQ4 := Lib.hid (HQ3.out.ext (hA3.trans hxn))
              have HPE := Lib.hid (fun W (hW : Ext wn W) => by have := Equal_c _ _ _ _ _ _ _ _ W (HQ4.out.ext hW) (HP.out.ext (hXn.trans hW)); rw [show eqP (redS sizes es) (redE sizes es) sizes es = true by rw [HRN.out.1, HRS.out, eqP_refl]] at this; exact this)
              have hl1c : decide (es.length < (redE sizes es).length) = false := by simp; omega
              have hl2c : ((redE sizes es).length == es.length) = true := by rw [beq_iff_eq]; omega
              clear hlen
              go_wp2_with fail
              refine (HNE.out _ hXn).mono ?_; rintro e wo ⟨vo, rfl, hvo, hxo⟩
              rw [HRN.out.2] at hvo
              obtain ⟨ao, co, rfl, _⟩ := Ints.open_ (show Ints wo vo [] from hvo)
              have m0 := hxo.keep m0
              have m1 := hxo.keep m1
              clear hvo
              have hXo := hXn.trans hxo
              go_wp2_with fail
              refine (HPE.out wo hxo).mono ?_; rintro e wp ⟨rfl, hxp⟩
              go_wp2_with fail
              go_ret
              exact RV.bool rfl (hE0.trans (hXo.trans hxp))
            · have hl1 : decide (((redE sizes es).length : Int) > (es.length : Int)) = false := by have := HRL.out; simp; omega
              have hl1b : decide ((es.length : Int) < ((redE sizes es).length : Int)) = false := by have := HRL.out; simp; omega
              have hl2 : (((redE sizes es).length : Int) == (es.length : Int)) = false := by rw [beq_eq_false_iff_ne]; omega
              have hl1c : decide (es.length < (redE sizes es).length) = false := by have := HRL.out; simp; omega
              have hl2c : ((redE sizes es).length == es.length) = false := by rw [beq_eq_false_iff_ne]; omega
              have HLEN := Lib.hid hlen
              clear hlen
              go_wp2_with fail
              go_ret
              exact RV.bool rfl (hE0.trans hXn)
          · have hkd : (kk == 0) = false := by rw [beq_eq_false_iff_ne]; exact hkk
            have HKK := Lib.hid hkk; clear hkk
            clear z0 z1 hbx
            go_wp2_with fail
            refine (HRE.out _ hXc).mono ?_; rintro e wm ⟨s3, e3, rfl, hov3, hoe3, hx3⟩
            obtain ⟨as3, cs3, rfl, _⟩ := hov3.ints.open_
            obtain ⟨ae3, ce3, rfl, _⟩ := hoe3.ents.open_
            have HQ3 := Lib.hid (show Par wm _ _ _ _ from ⟨hov3.ints, hoe3.ents⟩)
            clear hov3 hoe3
            have hA3 := Ext.alloc wm (.cells #[.slice as3 (redS sizes es).length cs3, .slice ae3 (redE sizes es).length ce3] 25)
            have hb3 := BoxP.new wm (.slice as3 (redS sizes es).length cs3) (.slice ae3 (redE sizes es).length ce3) rfl
            have m0 := hb3.c0
            have m1 := hb3.c1
            have hXm := hXc.trans (hx3.trans hA3)
            have HSA := Lib.hid (Same_c _ _ _ _ _ _ _ _ _ (HQ3.out.ext hA3) (HP.out.ext hXm))
            rw [HSK.out, HSV.out] at HSA
            go_wp2_with fail
            refine HSA.out.mono ?_; rintro e wn ⟨vn, rfl, hvn, hxn⟩
            obtain rfl : vn = .bool true := hvn
            have m0 := hxn.keep m0
            have m1 := hxn.keep m1
            have hb3 := hb3.ext hxn
            have hXn := hXm.trans hxn
            by_cases hlen : (redE sizes es).length = es.length
            · have HRN := Lib.hid (red_none HV0.out hlen)
              have hl1 : decide (((redE sizes es).length : Int) > (es.length : Int)) = false := by simp; omega
              have hl2 : (((redE sizes es).length : Int) == (es.length : Int)) = true := by rw [beq_iff_eq]; omega
              have hl1b : decide ((es.length : Int) < ((redE sizes es).length : Int)) = false := by simp; omega
              have HLEN := Lib.hid hlen
              have HQ4 := Lib.hid (HQ3.out.ext (hA3.trans hxn))
              have HPE := Lib.hid (fun W (hW : Ext wn W) => by have := Equal_c _ _ _ _ _ _ _ _ W (HQ4.out.ext hW) (HP.out.ext (hXn.trans hW)); rw [show eqP (redS sizes es) (redE sizes es) sizes es = true by rw [HRN.out.1, HRS.out, eqP_refl]] at this; exact this)
              have hl1c : decide (es.length < (redE sizes es).length) = false := by simp; omega
              have hl2c : ((redE sizes es).length == es.length) = true := by rw [beq_iff_eq]; omega
              clear hlen
              go_wp2_with fail
              refine (HNE.out _ hXn).mono ?_; rintro e wo ⟨vo, rfl, hvo, hxo⟩
              rw [HRN.out.2] at hvo
              obtain ⟨ao, co, rfl, _⟩ := Ints.open_ (show Ints wo vo [] from hvo)
              have m0 := hxo.keep m0
              have m1 := hxo.keep m1
              clear hvo
              have hXo := hXn.trans hxo
              go_wp2_with fail
              refine (HPE.out wo hxo).mono ?_; rintro e wp ⟨rfl, hxp⟩
              go_wp2_with fail
              go_ret
              exact RV.bool rfl (hE0.trans (hXo.trans hxp))
            · have hl1 : decide (((redE sizes es).length : Int) > (es.length : Int)) = false := by have := HRL.out; simp; omega
              have hl1b : decide ((es.length : Int) < ((redE sizes es).length : Int)) = false := by have := HRL.out; simp; omega
              have hl2 : (((redE sizes es).length : Int) == (es.length : Int)) = false := by rw [beq_eq_false_iff_ne]; omega
              have hl1c : decide (es.length < (redE sizes es).length) = false := by have := HRL.out; simp; omega
              have hl2c : ((redE sizes es).length == es.length) = false := by rw [beq_eq_false_iff_ne]; omega
              have HLEN := Lib.hid hlen
              clear hlen
              go_wp2_with fail
              go_ret
              exact RV.bool rfl (hE0.trans hXn)
end Go.Proofs.Ytejklkhaplkblaa
