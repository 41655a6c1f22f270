/- CellBoxes: for every input the call returns true. No condition. -/
import Derived.Test.YtdgncnhmgbmpjaaRBoxB
import Derived.Test.YtdgncnhmgbmpjaaBoxQ
import Derived.Test.YtdgncnhmgbmpjaaLawA
import Derived.Test.YtdgncnhmgbmpjaaDec
namespace Go.Proofs.Ytdgncnhmgbmpjaa
open Go.RowKit Go.Shelf
set_option linter.unusedVariables false
theorem sameInts_b (va vb : Value) (a : List Int) (w : World) (ha : Ints w va a) (hb : Ints w vb a) : Calls Try.prog 12 #[va, vb] w (RV (.bool true) w) := by
  have := sameInts_c va vb a a w ha hb
  rw [show sameIntsB a a = true by rw [sameIntsB_iff]; simp] at this
  refine this.mono ?_
  rintro e w' ⟨rfl, n, rfl⟩
  exact ⟨rfl, Ext.drewN _ _⟩
theorem has_match {es : List Ent} {c : List Int} {i : Nat} (hi : i < es.length) : hasB (sel es.length (matchB es c)) (i : Int) = holdsB (ent es i).1 c := by
  rw [hasB_eq, Bool.eq_iff_iff, List.contains_iff_mem, mem_sel]
  constructor
  · rintro ⟨k, hk, hm, he⟩
    obtain rfl : i = k := by omega
    exact hm
  · intro h
    exact ⟨i, hi, h, rfl⟩
set_option maxHeartbeats 2000000 in
set_option maxRecDepth 100000 in
theorem cellBoxes_c (sv ev : Value) (sizes : List Int) (es : List Ent) (i : Int) (w : World) (hp : Par w sv ev sizes es) (hi : (Lit.int .i64 i).wf = true) :
    Calls Try.prog 4 #[.agg #[sv, ev], .int .i64 i] w (RV (.bool true) w) := by
  obtain ⟨wA, hwA⟩ : ∃ wA, wA = w.alloc (.cells #[sv, ev] 25) := ⟨_, rfl⟩
  have hA : Ext w wA := by rw [hwA]; exact Ext.alloc _ _
  have k0 : ∀ W, Ext wA W → W.cell? ⟨w.heap.size, 0, none⟩ = some sv := by rw [hwA]; exact kept_allocB w _ _ rfl
  have k1 : ∀ W, Ext wA W → W.cell? ⟨w.heap.size, 1, none⟩ = some ev := by rw [hwA]; exact kept_allocB w _ _ rfl
  have H0 := Ext.refl wA
  have HP := Lib.hid (hp.ext hA)
  have HLG := Lib.hid (long_c sv ev sizes es wA (hp.ext hA))
  have HCE := Lib.hid (fun W (hW : Ext wA W) => Cells_c sv ev sizes es W (HP.out.ext hW))
  obtain ⟨ae, ce, rfl, hle, hme, HEN⟩ := (hp.ext hA).e.open_
  have HW := Lib.hid hwA
  clear hp hwA
  generalize longB sizes es = b1 at *
  cases b1
  · by_cases hv : validI sizes es = 0
    · rw [hv, if_pos rfl] at HCE
      have V := validI_zero hv
      by_cases hi0 : i < 0
      · have hd1 : decide (i < 0) = true := by simpa using hi0
        clear hv V
        go_enter Try.func4, Try.ntmps4
        go_wp2_with fail
        rw [← HW.out]
        refine HLG.out.mono ?_; rintro e w1 ⟨rfl, hx1⟩
        go_wp2_with fail
        refine (HCE.out w1 hx1).mono ?_; rintro e w2 ⟨v2, rfl, hr2, hx2⟩
        have hX2 := hx1.trans hx2
        go_wp2_with fail
        refine (known_c _).mono ?_; rintro e wK ⟨rfl, hxK⟩
        go_wp2_with fail
        go_ret
        exact RV.bool rfl (hA.trans (hX2.trans hxK))
      · obtain ⟨n, rfl⟩ : ∃ n : Nat, i = n := ⟨i.toNat, by omega⟩
        by_cases hin : n < es.length
        · have hnI : (n : Int) < (es.length : Int) := by omega
          have hnJ : ¬ (n : Int) ≥ (es.length : Int) := by omega
          have hd2 : decide ((n : Int) ≥ (es.length : Int)) = false := by simpa using hnJ
          have hd3 : decide ((es.length : Int) ≤ (n : Int)) = false := by simpa using hnJ
          have hd4 : decide (es.length ≤ n) = false := by simp; omega
          have HBI := Lib.hid (box_isBox V hin)
          have HMA := Lib.hid (fun (vc : Value) (c : List Int) W (hW : Ext wA W) (hc : Ints W vc c) => Matches_c sv _ vc sizes es c W (HP.out.ext hW) hc)
          have HHM := Lib.hid (fun c => has_match (es := es) (c := c) hin)
          have HNX := Lib.hid (fun k => box_next (sizes := sizes) (a := (ent es n).1) (k := k))
          have HCK : Hid (∀ c ∈ cellsOf sizes, cK sizes es c = 0) := Lib.hid (fun c hc => cK_of V (cell_isListB V.ok hc))
          have hcc := cells_count V.ok
          have hc27 := hcc.2
          have HIB := Lib.hid (fun (lv : Value) W (hW : Ext wA W) (hl : Rows W lv (boxOf sizes (ent es n).1)) => IsBox_c sv _ lv sizes es _ W (HP.out.ext hW) hl (by have := List.length_filter_le (holdsB (ent es n).1) (cellsOf sizes); unfold boxOf; omega))
          have HHU := Lib.hid (fun (lv : Value) W (hW : Ext wA W) (hl : Rows W lv (boxOf sizes (ent es n).1)) => Hull_c sv _ lv sizes es _ W (HP.out.ext hW) hl)
          rw [HBI.out.1, HBI.out.2.1] at HIB
          rw [HBI.out.2.2.1, HBI.out.2.2.2] at HHU
          have HBO : Hid (boxOf sizes (ent es n).1 = (cellsOf sizes).filter (holdsB (ent es n).1)) := Lib.hid rfl
          obtain ⟨be, oe, rfl, ue, hcu, hiu, _⟩ := HEN.out n hin
          have HIU := Lib.hid hiu
          obtain ⟨au, cu, rfl, _⟩ := hiu.open_
          clear hiu hv V hcc
          generalize (ent es n).1 = sp at *
          generalize boxOf sizes sp = BX at *
          generalize cellsOf sizes = CS at *
          go_enter Try.func4, Try.ntmps4
          go_wp2_with fail
          rw [← HW.out]
          refine HLG.out.mono ?_; rintro e w1 ⟨rfl, hx1⟩
          go_wp2_with fail
          refine (HCE.out w1 hx1).mono ?_; rintro e w2 ⟨v2, rfl, hr2, hx2⟩
          have hr2' : Rows w2 v2 CS := hr2
          obtain ⟨a2, c2, rfl, _, _, H2⟩ := Rows.open_ hr2'
          clear hr2 hr2'
          have hX2 := hx1.trans hx2
          go_wp2_with fail
          go_loopg [8, 7] CS.length (fun m i v wr => ∃ (k : Nat) (us : List Value) (v7 : Value), k ≤ CS.length ∧ CS.length ≤ k + m ∧ i = .int .i64 k ∧ v7 = v ∧ Ext w2 wr ∧ wr.ownsRow w2.heap.size 22 1 v7 us.length us ∧ AllInts w2 us ((CS.take k).filter (holdsB sp)))
          case atStart => exact ⟨0, [], _, by omega, by omega, rfl, rfl, Ext.refl _, World.ownsRow_nil _ _ _ _, AllInts.nil _⟩
          case round =>
            obtain ⟨k, us, v7, hk, hk2, rfl, rfl, hB, ho, hai⟩ := hrel
            have hul : us.length ≤ 27 := by
              have h1 := hai.1
              have h2 := List.length_filter_le (holdsB sp) (CS.take k)
              have h3 : (CS.take k).length ≤ CS.length := by rw [List.length_take]; omega
              omega
            have HO := Lib.hid ho
            obtain ⟨a7, c7, rfl⟩ := rowV_open ho
            have HAI := Lib.hid hai
            clear ho hai
            have hXr := hX2.trans hB
            by_cases hlt : k < CS.length
            · have hkI : (k : Int) < (CS.length : Int) := by omega
              obtain ⟨b, o, rfl, u, hc, hiw⟩ := H2.out k hlt
              have hcw := hB.keep hc
              have HCK2 := HCK.out (CS[k]?.getD []) (by rw [List.getElem?_eq_getElem hlt]; exact List.getElem_mem hlt)
              have HMM := Lib.hid (fun W (hW : Ext wr W) => HMA.out u (CS[k]?.getD []) W (hXr.trans hW) (hiw.ext (hB.trans hW)))
              rw [HCK2, if_pos rfl] at HMM
              have HHS := Lib.hid (fun (v : Value) W (h : Ints W v (sel es.length (matchB es (CS[k]?.getD [])))) => has_c v _ (n : Int) W h)
              rw [HHM.out (CS[k]?.getD [])] at HHS
              have HNK := Lib.hid (HNX.out k hlt)
              have HIW := Lib.hid hiw
              obtain ⟨aw, cw, rfl, _⟩ := hiw.open_
              clear hiw hc HCK2
              generalize CS[k]?.getD [] = c at *
              generalize sel es.length (matchB es c) = SL at *
              generalize c.length = cn at *
              have q0 := fun s : InC (Ext wr) => s.h.keep hcw
              have hs : ∀ s : InC (Ext wr), Ext wA s.w := fun s => hXr.trans s.h
              cases hh : holdsB sp c
              · rw [hh] at HHS
                have HH0 := Lib.hid hh; clear hh
                go_wp2_with fail
                refine wp_region_peek (Ext wr) (fun _ => True) [] [.look 0, .look 1, .look 2, .look 3, .look 4, .go 5, .look 6, .look 7, .look 8, .look 9, .look 10] (by kernel_rfl) (by kernel_rfl) (by intro c a d v w h; cases d <;> exact h) ?_
                have hd : Ext wr { wr with drawn := wr.drawn + 1 } := drawnP_ext wr
                generalize { wr with drawn := wr.drawn + 1 } = W0 at *
                iterate 5 (refine wpPeek_look rfl ‹_› (fun K hK => ?_); go_simp; first | (refine hK _ ?_; clear hK K) | (refine ⟨_, fun _ => rfl, hK _ ?_⟩; clear hK K))
                clear hs q0
                refine wpPeek_go rfl rfl (fun K hK => ?_)
                go_wp2_with fail
                refine (HMM.out W0 hd).mono ?_; rintro e w5 ⟨v5, rfl, hi5, hx5'⟩
                have hi5' : Ints w5 v5 SL := hi5
                have HI5 := Lib.hid hi5'
                obtain ⟨a5, c5, rfl, _⟩ := hi5'.open_
                clear hi5 hi5'
                have hx5 : Ext wr w5 := hd.trans hx5'
                go_wp2_with fail
                refine ⟨KeepE.of (fun h => h.trans hx5') (fun _ => trivial), ?_⟩
                clear hd hx5'
                have hd : Ext wr w5 := hx5
                iterate 5 (refine wpPeek_look rfl ‹_› (fun K hK => ?_); go_simp; first | (refine hK _ ?_; clear hK K) | (refine ⟨_, fun _ => rfl, hK _ ?_⟩; clear hK K))
                clear hd
                refine wpPeek_nil ?_
                have hB5 := hB.trans hx5
                go_wp2_with fail
                refine (HHS.out _ w5 HI5.out).mono ?_; rintro e w6 ⟨rfl, rfl⟩
                go_wp2_with fail
                go_roundg (gk-1)
                case measure => omega
                case rel => exact ⟨k+1, us, _, by omega, by omega, by go_num, rfl, hB5, ownsRow_ext HO.out hx5, by rw [HNK.out, HH0.out, if_neg (by decide), List.append_nil]; exact HAI.out⟩
              · rw [hh] at HHS
                have HH0 := Lib.hid hh; clear hh
                go_wp2_with fail
                refine wp_region_peek (Ext wr) (fun _ => True) [] [.look 0, .look 1, .look 2, .look 3, .look 4, .go 5, .look 6, .look 7, .look 8, .look 9, .look 10] (by kernel_rfl) (by kernel_rfl) (by intro c a d v w h; cases d <;> exact h) ?_
                have hd : Ext wr { wr with drawn := wr.drawn + 1 } := drawnP_ext wr
                generalize { wr with drawn := wr.drawn + 1 } = W0 at *
                iterate 5 (refine wpPeek_look rfl ‹_› (fun K hK => ?_); go_simp; first | (refine hK _ ?_; clear hK K) | (refine ⟨_, fun _ => rfl, hK _ ?_⟩; clear hK K))
                clear hs q0
                refine wpPeek_go rfl rfl (fun K hK => ?_)
                go_wp2_with fail
                refine (HMM.out W0 hd).mono ?_; rintro e w5 ⟨v5, rfl, hi5, hx5'⟩
                have hi5' : Ints w5 v5 SL := hi5
                have HI5 := Lib.hid hi5'
                obtain ⟨a5, c5, rfl, _⟩ := hi5'.open_
                clear hi5 hi5'
                have hx5 : Ext wr w5 := hd.trans hx5'
                go_wp2_with fail
                refine ⟨KeepE.of (fun h => h.trans hx5') (fun _ => trivial), ?_⟩
                clear hd hx5'
                have hd : Ext wr w5 := hx5
                iterate 5 (refine wpPeek_look rfl ‹_› (fun K hK => ?_); go_simp; first | (refine hK _ ?_; clear hK K) | (refine ⟨_, fun _ => rfl, hK _ ?_⟩; clear hK K))
                clear hd
                refine wpPeek_nil ?_
                have hB5 := hB.trans hx5
                have hcw5 := hx5.keep hcw
                have HO5 := Lib.hid (ownsRow_ext HO.out hx5)
                have hsz5 : w2.heap.size ≤ w5.heap.size := hB5.size
                go_wp2_with fail
                refine (HHS.out _ w5 HI5.out).mono ?_; rintro e w6 ⟨rfl, rfl⟩
                go_wp2_with (at_builtin; go_loud (refine wpList_append1G elRows rfl _ _ rfl rfl rfl HO5.out rfl rfl hsz5 (by omega) (by omega) ?_); intro g' cap' w7 ho7 hg7 hq7)
                have hb7 := Below.of_grownBy hg7 HO5.out hsz5
                go_roundg (gk-1)
                case measure => omega
                case rel => exact ⟨k+1, us ++ [.slice aw cn cw], _, by omega, by omega, by go_num, rfl, hB5.upto hb7 (Nat.le_refl _), by rw [List.length_append]; exact ho7, by rw [HNK.out, HH0.out, if_pos rfl]; exact HAI.out.snoc HIW.out⟩
            · have hkI : ¬ (k : Int) < (CS.length : Int) := by omega
              have hai : AllInts w2 us BX := by
                have := HAI.out
                rwa [List.take_of_length_le (by omega), ← HBO.out] at this
              have HRW := Lib.hid (fun W (hW : Ext wr W) => (Rows.own (by rw [← hai.1]; exact ownsRow_ext HO.out hW) (hai.ext (hB.trans hW)) : Rows W _ BX))
              have HB1 := Lib.hid (HIB.out _ wr hXr (HRW.out wr (Ext.refl _)))
              have HB2 := Lib.hid (fun W (hW : Ext wr W) => HHU.out _ W (hXr.trans hW) (HRW.out W hW))
              clear hai HRW
              go_wp2_with fail
              refine HB1.out.mono ?_; rintro e w5 ⟨rfl, hx5⟩
              have hX5 := hXr.trans hx5
              go_wp2_with fail
              refine (HB2.out w5 hx5).mono ?_; rintro e w6 ⟨v6, rfl, hi6, hx6⟩
              have hi6' : Ints w6 v6 sp := hi6
              have HI6 := Lib.hid hi6'
              obtain ⟨a6, c6, rfl, _⟩ := hi6'.open_
              clear hi6 hi6'
              have hX6 := hX5.trans hx6
              have hcu6 := hX6.keep hcu
              have HS := Lib.hid (sameInts_b _ _ sp w6 HI6.out (HIU.out.ext hX6))
              go_wp2_with fail
              refine HS.out.mono ?_; rintro e w7 ⟨rfl, hx7⟩
              have hX7 := hX6.trans hx7
              go_wp2_with fail
              refine (known_c _).mono ?_; rintro e wK ⟨rfl, hxK⟩
              go_wp2_with fail
              go_ret
              exact RV.bool rfl (hA.trans (hX7.trans hxK))
        · have hnJ : (n : Int) ≥ (es.length : Int) := by omega
          have hd2 : decide ((n : Int) ≥ (es.length : Int)) = true := by simpa using hnJ
          have hd3 : decide ((es.length : Int) ≤ (n : Int)) = true := by simpa using hnJ
          have hd4 : decide (es.length ≤ n) = true := by simp; omega
          clear hv V
          go_enter Try.func4, Try.ntmps4
          go_wp2_with fail
          rw [← HW.out]
          refine HLG.out.mono ?_; rintro e w1 ⟨rfl, hx1⟩
          go_wp2_with fail
          refine (HCE.out w1 hx1).mono ?_; rintro e w2 ⟨v2, rfl, hr2, hx2⟩
          have hX2 := hx1.trans hx2
          go_wp2_with fail
          refine (known_c _).mono ?_; rintro e wK ⟨rfl, hxK⟩
          go_wp2_with fail
          go_ret
          exact RV.bool rfl (hA.trans (hX2.trans hxK))
    · have hkk : (validI sizes es != 0) = true := by simp [hv]
      generalize validI sizes es = k at *
      clear hv
      go_enter Try.func4, Try.ntmps4
      go_wp2_with fail
      rw [← HW.out]
      refine HLG.out.mono ?_; rintro e w1 ⟨rfl, hx1⟩
      go_wp2_with fail
      refine (HCE.out w1 hx1).mono ?_; rintro e w2 ⟨v2, rfl, hr2, hx2⟩
      have hX2 := hx1.trans hx2
      go_wp2_with fail
      refine (known_c _).mono ?_; rintro e wK ⟨rfl, hxK⟩
      go_wp2_with fail
      go_ret
      exact RV.bool rfl (hA.trans (hX2.trans hxK))
  · go_enter Try.func4, Try.ntmps4
    go_wp2_with fail
    rw [← HW.out]
    refine HLG.out.mono ?_; rintro e w1 ⟨rfl, hx1⟩
    go_wp2_with fail
    refine (known_c _).mono ?_; rintro e wK ⟨rfl, hxK⟩
    go_wp2_with fail
    go_ret
    exact RV.bool rfl (hA.trans (hx1.trans hxK))
end Go.Proofs.Ytdgncnhmgbmpjaa
