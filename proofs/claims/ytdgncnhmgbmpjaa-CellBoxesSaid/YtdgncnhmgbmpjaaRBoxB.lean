/- Hull and IsBox of the reference. -/
import Derived.Test.YtdgncnhmgbmpjaaRBox
import Derived.Test.YtdgncnhmgbmpjaaRefB
namespace Go.Proofs.Ytdgncnhmgbmpjaa
open Go.RowKit Go.Shelf
set_option linter.unusedVariables false
set_option maxHeartbeats 1000000 in
set_option maxRecDepth 100000 in
theorem rHull_c (sv ev lv : Value) (sizes : List Int) (es : List Ent) (ls : List (List Int)) (w : World) (hp : Par w sv ev sizes es) (hl : Rows w lv ls) :
    Calls Try.prog 9 #[.agg #[sv, ev], lv] w (R2 (isInts (hullV sizes es ls)) (hullK sizes es ls) w) := by
  have hA := Ext.alloc w (.cells #[sv, ev] 25)
  have HC := Lib.hid (rlisted_c sv ev lv sizes es ls _ (hp.ext hA) (Rows.ext hl hA))
  have HR := Lib.hid hl
  obtain ⟨al, cl, rfl, hll, hml, HL⟩ := Rows.open_ hl
  clear hl hp
  by_cases h0 : checkI sizes es ls = 0
  · have HLN := Lib.hid (checkI_lens h0)
    have V := (checkI_ok h0).1
    have hs3 := V.ok.2.1
    rw [h0] at HC
    by_cases hz : ls.length = 0
    · have hK : hullK sizes es ls = 4 := by rw [hullK, if_pos h0, if_pos hz]
      rw [show hullV sizes es ls = [] by rw [hullV, hK, if_neg (by decide)], hK]
      have hzd : ((ls.length : Int) == 0) = true := by rw [beq_iff_eq]; omega
      clear hK hz
      clear h0 V hs3
      go_enter Try.func9, Try.ntmps9
      go_wp2_with fail
      refine HC.out.mono ?_; rintro e w1 ⟨rfl, hx1⟩
      go_wp2_with fail
      go_ret2
      exact R2.mk (ints_nil_c _) (hA.trans hx1)
    · have hK : hullK sizes es ls = 0 := by rw [hullK, if_pos h0, if_neg hz]
      rw [show hullV sizes es ls = hullL ls by rw [hullV, if_pos hK], hK]
      have hzd : ((ls.length : Int) == 0) = false := by rw [beq_eq_false_iff_ne]; omega
      clear hK
      have HH := Lib.hid (fun W (hW : Ext w W) => rhull_c _ ls sizes.length W (Rows.ext HR.out hW) (by omega) HLN.out (by omega))
      have HZ := Lib.hid hz
      clear h0 V hs3 hz
      go_enter Try.func9, Try.ntmps9
      go_wp2_with fail
      refine HC.out.mono ?_; rintro e w1 ⟨rfl, hx1⟩
      go_wp2_with fail
      refine (HH.out w1 (hA.trans hx1)).mono ?_; rintro e w2 ⟨v, rfl, ho, hx2⟩
      have HO := Lib.hid ho.ints
      obtain ⟨a2, c2, rfl, _⟩ := ho.ints.open_
      clear ho
      go_wp2_with fail
      go_ret2
      exact R2.mk HO.out (hA.trans (hx1.trans hx2))
  · have hK : hullK sizes es ls = checkI sizes es ls := by rw [hullK, if_neg h0]
    rw [show hullV sizes es ls = [] by rw [hullV, hK, if_neg h0], hK]
    clear hK
    have hk : (checkI sizes es ls != 0) = true := by simp [h0]
    generalize checkI sizes es ls = k at *
    have H0 := Lib.hid h0; clear h0
    go_enter Try.func9, Try.ntmps9
    go_wp2_with fail
    refine HC.out.mono ?_; rintro e w1 ⟨rfl, hx1⟩
    go_wp2_with fail
    go_ret2
    exact R2.mk (ints_nil_c _) (hA.trans hx1)
set_option maxHeartbeats 1000000 in
theorem rhas_c (lv vc : Value) (ls : List (List Int)) (c : List Int) (w : World) (hl : Rows w lv ls) (hc : Ints w vc c) : Calls Try.prog 33 #[lv, vc] w (RV (.bool (ls.contains c)) w) := by
  obtain ⟨al, cl, rfl, hll, hml, HL⟩ := Rows.open_ hl
  have HC := Lib.hid hc
  obtain ⟨ac, cc, rfl, _⟩ := hc.open_
  clear hl hc
  go_enter Try.func33, Try.ntmps33
  go_wp2_with fail
  go_loopg [5] ls.length (fun m i wr => ∃ k : Nat, k ≤ ls.length ∧ ls.length ≤ k + m ∧ i = .int .i64 k ∧ Ext w wr ∧ Hid (∀ j, j < k → ls[j]?.getD [] ≠ c))
  case atStart => exact ⟨0, by omega, by omega, rfl, Ext.refl _, Lib.hid (fun j hj => by omega)⟩
  case round =>
    obtain ⟨k, hk, hk2, rfl, hB, HE⟩ := hrel
    by_cases hlt : k < ls.length
    · have hkI : (k : Int) < (ls.length : Int) := by omega
      obtain ⟨b, o, rfl, u, hcu, hi⟩ := HL.out k hlt
      replace hcu := hB.keep hcu
      have HS := Lib.hid (sameInts_c u _ _ c wr (hi.ext hB) (HC.out.ext hB))
      have HMM : Hid (ls[k]?.getD [] ∈ ls) := Lib.hid (by rw [List.getElem?_eq_getElem hlt]; exact List.getElem_mem hlt)
      obtain ⟨au, cu, rfl, _⟩ := hi.open_
      clear hi
      by_cases he : ls[k]?.getD [] = c
      · rw [show sameIntsB (ls[k]?.getD []) c = true by rw [sameIntsB_iff, he]; simp] at HS
        have HEE := Lib.hid he; clear he
        generalize (ls[k]?.getD []).length = un at *
        go_wp2_with fail
        refine HS.out.mono ?_; rintro e w5 ⟨rfl, nd, rfl⟩
        go_wp2_with fail
        go_ret
        exact RV.bool (by rw [eq_comm, List.contains_iff_mem, ← HEE.out]; exact HMM.out) (hB.trans (Ext.drewN _ _))
      · rw [show sameIntsB (ls[k]?.getD []) c = false by rw [sameIntsB_iff]; simpa using he] at HS
        have HEE := Lib.hid he; clear he
        generalize (ls[k]?.getD []).length = un at *
        go_wp2_with fail
        refine HS.out.mono ?_; rintro e w5 ⟨rfl, nd, rfl⟩
        go_wp2_with fail
        go_roundg (gk-1)
        case measure => omega
        case rel => exact ⟨k+1, by omega, by omega, by go_num, hB.trans (Ext.drewN _ _), Lib.hid (fun j hj => by
          by_cases e : j = k
          · subst e; exact HEE.out
          · exact HE.out j (by omega))⟩
    · have hkI : ¬ (k : Int) < (ls.length : Int) := by omega
      go_wp2_with fail
      go_ret
      exact RV.bool (by
        rw [eq_comm, Bool.eq_false_iff]
        intro h
        have hm : c ∈ ls := by simpa using h
        obtain ⟨j, hj, he⟩ := List.mem_iff_getElem.1 hm
        refine HE.out j (by omega) ?_
        rw [List.getElem?_eq_getElem hj]; exact he) hB
set_option maxHeartbeats 2000000 in
set_option maxRecDepth 100000 in
theorem rIsBox_c (sv ev lv : Value) (sizes : List Int) (es : List Ent) (ls : List (List Int)) (w : World) (hp : Par w sv ev sizes es) (hl : Rows w lv ls) :
    Calls Try.prog 11 #[.agg #[sv, ev], lv] w (RV (.tuple #[.bool (isBoxB sizes es ls), .int .i64 (checkI sizes es ls)]) w) := by
  obtain ⟨wA, hwA⟩ : ∃ wA, wA = w.alloc (.cells #[sv, ev] 25) := ⟨_, rfl⟩
  have hA : Ext w wA := by rw [hwA]; exact Ext.alloc _ _
  have k0 : ∀ W, Ext wA W → W.cell? ⟨w.heap.size, 0, none⟩ = some sv := by rw [hwA]; exact kept_allocB w _ _ rfl
  have k1 : ∀ W, Ext wA W → W.cell? ⟨w.heap.size, 1, none⟩ = some ev := by rw [hwA]; exact kept_allocB w _ _ rfl
  have H0 := Ext.refl wA
  have HC := Lib.hid (rlisted_c sv ev lv sizes es ls _ (hp.ext hA) (Rows.ext hl hA))
  have HP := Lib.hid hp
  have HR := Lib.hid hl
  obtain ⟨al, cl, rfl, hll, hml, HL⟩ := Rows.open_ hl
  have HW := Lib.hid hwA
  clear hl hp hwA
  by_cases h0 : checkI sizes es ls = 0
  · have HLN := Lib.hid (checkI_lens h0)
    have V := (checkI_ok h0).1
    by_cases hz : ls.length = 0
    · rw [show isBoxB sizes es ls = false by rw [isBoxB, if_pos h0, if_pos hz], h0]
      rw [h0] at HC
      have hzd : ((ls.length : Int) == 0) = true := by rw [beq_iff_eq]; omega
      clear hz h0 V
      go_enter Try.func11, Try.ntmps11
      go_wp2_with fail
      rw [← HW.out]
      refine HC.out.mono ?_; rintro e w1 ⟨rfl, hx1⟩
      go_wp2_with fail
      go_ret2
      exact ⟨rfl, hA.trans hx1⟩
    · rw [show isBoxB sizes es ls = boxB sizes ls by rw [isBoxB, if_pos h0, if_neg hz], h0]
      have hzd : ((ls.length : Int) == 0) = false := by rw [beq_eq_false_iff_ne]; omega
      have hl0 : 0 < ls.length := by omega
      have HOK := Lib.hid V.ok
      have hs3 := V.ok.2.1
      have HHL := Lib.hid (hull_len hl0 HLN.out)
      have HLO : Hid (∀ t, t < (hullL ls).length → -1 ≤ (hullL ls)[t]?.getD 0) := Lib.hid (fun t ht => by
        rw [HHL.out] at ht
        have h1 := hullTo_holds (HLN.out 0 hl0) ls.length 0 hl0 t ht
        have h2 := (isListB_iff _ _ _).1 ((checkI_ok h0).2 0 hl0)
        have h3 := h2.2 t (by rw [h2.1]; exact ht)
        unfold hullL
        omega)
      have HBX : Hid (boxB sizes ls = allB (cellsOf sizes).length fun k => !(holdsB (hullL ls) ((cellsOf sizes)[k]?.getD [])) || ls.contains ((cellsOf sizes)[k]?.getD [])) := Lib.hid rfl
      rw [h0] at HC
      clear hz h0 V
      go_enter Try.func11, Try.ntmps11
      go_wp2_with fail
      rw [← HW.out]
      refine HC.out.mono ?_; rintro e w1 ⟨rfl, hx1⟩
      have HHU := Lib.hid (rhull_c _ ls sizes.length w1 (Rows.ext HR.out (hA.trans hx1)) hl0 HLN.out (by omega))
      generalize boxB sizes ls = bx at *
      generalize hullL ls = sp at *
      go_wp2_with fail
      refine HHU.out.mono ?_; rintro e w2 ⟨v2, rfl, ho2, hx2⟩
      have HI2 := Lib.hid ho2.ints
      obtain ⟨a2, c2, rfl, _⟩ := ho2.ints.open_
      clear ho2
      have hX2 := hx1.trans hx2
      have HCE := Lib.hid (rcells_c sv ev sizes w2 (HP.out.s.ext (hA.trans hX2)) HOK.out)
      rw [cellsR_eq HOK.out] at HCE
      have HCL := Lib.hid (fun k => cells_len HOK.out (k := k))
      generalize cellsOf sizes = CS at *
      go_wp2_with fail
      refine HCE.out.mono ?_; rintro e w3 ⟨v3, rfl, hr3, hx3⟩
      have hr3' : Rows w3 v3 CS := hr3
      obtain ⟨a3, c3, rfl, _, _, H3⟩ := Rows.open_ hr3'
      clear hr3 hr3'
      have hX3 := hX2.trans hx3
      have HX23 := Lib.hid hx3
      go_wp2_with fail
      go_loopg [9] CS.length (fun m i wr => ∃ k : Nat, k ≤ CS.length ∧ CS.length ≤ k + m ∧ i = .int .i64 k ∧ Ext w3 wr ∧ Hid (∀ j, j < k → (!(holdsB sp (CS[j]?.getD [])) || ls.contains (CS[j]?.getD [])) = true))
      case atStart => exact ⟨0, by omega, by omega, rfl, Ext.refl _, Lib.hid (fun j hj => by omega)⟩
      case round =>
        obtain ⟨k, hk, hk2, rfl, hB, HE⟩ := hrel
        by_cases hlt : k < CS.length
        · have hkI : (k : Int) < (CS.length : Int) := by omega
          obtain ⟨b, o, rfl, u, hcu, hi⟩ := H3.out k hlt
          have hcw := hB.keep hcu
          have HRH := Lib.hid (rHolds_c _ u sp (CS[k]?.getD []) wr (HI2.out.ext (HX23.out.trans hB)) (hi.ext hB) (by rw [HHL.out, HCL.out k hlt]) HLO.out)
          have HHA := Lib.hid (fun W (hW : Ext wr W) => rhas_c _ u ls (CS[k]?.getD []) W (Rows.ext HR.out (hA.trans (hX3.trans (hB.trans hW)))) (hi.ext (hB.trans hW)))
          obtain ⟨au, cu, rfl, _⟩ := hi.open_
          clear hi hcu
          cases hh : holdsB sp (CS[k]?.getD [])
          · rw [hh] at HRH
            have HX := Lib.hid hh; clear hh
            generalize (CS[k]?.getD []).length = un at *
            go_wp2_with fail
            refine HRH.out.mono ?_; rintro e w5 ⟨rfl, nd, rfl⟩
            have hB5 := hB.trans (Ext.drewN wr nd)
            go_wp2_with fail
            go_roundg (gk-1)
            case measure => omega
            case rel => exact ⟨k+1, by omega, by omega, by go_num, hB5, Lib.hid (fun j hj => by
              by_cases e : j = k
              · subst e; rw [HX.out]; rfl
              · exact HE.out j (by omega))⟩
          · rw [hh] at HRH
            have HX := Lib.hid hh; clear hh
            cases hc : ls.contains (CS[k]?.getD [])
            · rw [hc] at HHA
              have HY := Lib.hid hc; clear hc
              generalize (CS[k]?.getD []).length = un at *
              go_wp2_with fail
              refine HRH.out.mono ?_; rintro e w5 ⟨rfl, nd, rfl⟩
              have hx5 := Ext.drewN wr nd
              have hcw5 := hx5.keep hcw
              have hE5 := hB.trans hx5
              go_wp2_with fail
              refine (HHA.out _ hx5).mono ?_; rintro e w6 ⟨rfl, hx6⟩
              go_wp2_with fail
              go_ret2
              exact RVT.mk (by rw [HBX.out, allB_false hlt (by rw [HX.out, HY.out]; rfl)]) (hA.trans (hX3.trans (hE5.trans hx6)))
            · rw [hc] at HHA
              have HY := Lib.hid hc; clear hc
              generalize (CS[k]?.getD []).length = un at *
              go_wp2_with fail
              refine HRH.out.mono ?_; rintro e w5 ⟨rfl, nd, rfl⟩
              have hx5 := Ext.drewN wr nd
              have hcw5 := hx5.keep hcw
              have hE5 := hB.trans hx5
              go_wp2_with fail
              refine (HHA.out _ hx5).mono ?_; rintro e w6 ⟨rfl, hx6⟩
              have hB6 := hE5.trans hx6
              go_wp2_with fail
              go_roundg (gk-1)
              case measure => omega
              case rel => exact ⟨k+1, by omega, by omega, by go_num, hB6, Lib.hid (fun j hj => by
                by_cases e : j = k
                · subst e; rw [HX.out, HY.out]; rfl
                · exact HE.out j (by omega))⟩
        · have hkI : ¬ (k : Int) < (CS.length : Int) := by omega
          go_wp2_with fail
          go_ret2
          exact RVT.mk (by rw [HBX.out, allB_true (fun j hj => HE.out j (by omega))]) (hA.trans (hX3.trans hB))
  · rw [show isBoxB sizes es ls = false by rw [isBoxB, if_neg h0]]
    have hk : (checkI sizes es ls != 0) = true := by simp [h0]
    generalize checkI sizes es ls = k at *
    clear h0
    go_enter Try.func11, Try.ntmps11
    go_wp2_with fail
    rw [← HW.out]
    refine HC.out.mono ?_; rintro e w1 ⟨rfl, hx1⟩
    go_wp2_with fail
    go_ret2
    exact ⟨rfl, hA.trans hx1⟩
end Go.Proofs.Ytdgncnhmgbmpjaa
