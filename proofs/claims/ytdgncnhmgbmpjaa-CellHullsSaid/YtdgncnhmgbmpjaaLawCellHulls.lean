/- CellHulls: for every input the call returns true. No condition. -/
import Derived.Test.YtdgncnhmgbmpjaaRBoxB
import Derived.Test.YtdgncnhmgbmpjaaLawA
namespace Go.Proofs.Ytdgncnhmgbmpjaa
open Go.RowKit Go.Shelf
set_option linter.unusedVariables false
def manyB (ls : List (List Int)) : Bool := decide (100 < ls.length) || !(allB ls.length fun i => !decide (100 < (ls[i]?.getD []).length))
theorem many_bd {ls : List (List Int)} (h : manyB ls = false) : ls.length ≤ 100 := by
  unfold manyB at h
  rw [Bool.or_eq_false_iff, decide_eq_false_iff_not] at h
  omega
set_option maxHeartbeats 1000000 in
theorem many_c (lv : Value) (ls : List (List Int)) (w : World) (hl : Rows w lv ls) : Calls Try.prog 6 #[lv] w (RV (.bool (manyB ls)) w) := by
  obtain ⟨al, cl, rfl, hll, hml, HL⟩ := Rows.open_ hl
  clear hl
  by_cases h1 : 100 < ls.length
  · rw [show manyB ls = true by rw [manyB, decide_eq_true h1]; rfl]
    have h2 : (100 : Int) < (ls.length : Int) := by omega
    go_enter Try.func6, Try.ntmps6
    go_wp2_with fail
    go_ret
    exact RV.bool rfl (Ext.refl _)
  · have HB : Hid (manyB ls = !(allB ls.length fun i => !decide (100 < (ls[i]?.getD []).length))) := Lib.hid (by rw [manyB, decide_eq_false h1, Bool.false_or])
    have h2 : ¬ (100 : Int) < (ls.length : Int) := by omega
    have h3 : decide ((ls.length : Int) > 100) = false := by simp; omega
    generalize manyB ls = mb at *
    go_enter Try.func6, Try.ntmps6
    go_wp2_with fail
    go_loopg [3] ls.length (fun m i wr => ∃ k : Nat, k ≤ ls.length ∧ ls.length ≤ k + m ∧ i = .int .i64 k ∧ w = wr ∧ Hid (∀ j, j < k → (!decide (100 < (ls[j]?.getD []).length)) = true))
    case atStart => exact ⟨0, by omega, by omega, rfl, rfl, fun j hj => by omega⟩
    case round =>
      obtain ⟨k, hk, hk2, rfl, rfl, hE⟩ := hrel
      by_cases hlt : k < ls.length
      · have hkI : (k : Int) < (ls.length : Int) := by omega
        obtain ⟨b, o, rfl, u, hc, hi⟩ := HL.out k hlt
        have HG := Lib.hid (large_c u _ w hi)
        obtain ⟨au, cu, rfl, _⟩ := hi.open_
        clear hi
        cases hb : decide (100 < (ls[k]?.getD []).length)
        · rw [hb] at HG
          have HX := Lib.hid hb; clear hb
          obtain ⟨un, hun⟩ : ∃ n, (ls[k]?.getD []).length = n := ⟨_, rfl⟩
          rw [hun] at hc HG
          clear hun
          go_wp2_with fail
          refine HG.out.mono ?_; rintro e w5 ⟨rfl, rfl⟩
          go_wp2_with fail
          go_roundg (gk-1)
          case measure => omega
          case rel => exact ⟨k+1, by omega, by omega, by go_num, rfl, range_step hE.out (by rw [HX.out]; rfl)⟩
        · rw [hb] at HG
          have HX := Lib.hid hb; clear hb
          obtain ⟨un, hun⟩ : ∃ n, (ls[k]?.getD []).length = n := ⟨_, rfl⟩
          rw [hun] at hc HG
          clear hun
          go_wp2_with fail
          refine HG.out.mono ?_; rintro e w5 ⟨rfl, rfl⟩
          go_wp2_with fail
          go_ret
          exact RV.bool (by rw [HB.out, allB_false hlt (by rw [HX.out]; rfl)]; rfl) (Ext.refl _)
      · have hkI : ¬ (k : Int) < (ls.length : Int) := by omega
        go_wp2_with fail
        go_ret
        exact RV.bool (by rw [HB.out, allB_true (fun j hj => hE.out j (by omega))]; rfl) (Ext.refl _)
theorem sameInts_h (va vb : Value) (a : List Int) (w : World) (ha : Ints w va a) (hb : Ints w vb a) : Calls Try.prog 12 #[va, vb] w (RV (.bool true) w) := by
  have := sameInts_c va vb a a w ha hb
  rw [show sameIntsB a a = true by rw [sameIntsB_iff]; simp] at this
  refine this.mono ?_
  rintro e w' ⟨rfl, n, rfl⟩
  exact ⟨rfl, Ext.drewN _ _⟩
set_option maxHeartbeats 2000000 in
set_option maxRecDepth 100000 in
theorem cellHulls_c (sv ev : Value) (sizes : List Int) (es : List Ent) (lv : Value) (ls : List (List Int)) (w : World) (hp : Par w sv ev sizes es) (hl : Rows w lv ls) :
    Calls Try.prog 3 #[.agg #[sv, ev], lv] w (RV (.bool true) w) := by
  obtain ⟨wA, hwA⟩ : ∃ wA, wA = w.alloc (.cells #[sv, ev] 25) := ⟨_, rfl⟩
  have hA : Ext w wA := by rw [hwA]; exact Ext.alloc _ _
  have k0 : ∀ W, Ext wA W → W.cell? ⟨w.heap.size, 0, none⟩ = some sv := by rw [hwA]; exact kept_allocB w _ _ rfl
  have k1 : ∀ W, Ext wA W → W.cell? ⟨w.heap.size, 1, none⟩ = some ev := by rw [hwA]; exact kept_allocB w _ _ rfl
  have H0 := Ext.refl wA
  have HP := Lib.hid (hp.ext hA)
  have HR := Lib.hid (Rows.ext hl hA)
  have HLG := Lib.hid (long_c sv ev sizes es wA (hp.ext hA))
  have HMN := Lib.hid (fun W (hW : Ext wA W) => many_c lv ls W ((Rows.ext hl hA).ext hW))
  obtain ⟨al, cl, rfl, hll, hml, HL⟩ := Rows.open_ (Rows.ext hl hA)
  have HW := Lib.hid hwA
  clear hp hl hwA
  generalize longB sizes es = b1 at *
  cases b1
  · cases hmb : manyB ls
    · have hl9 := many_bd hmb
      rw [hmb] at HMN
      clear hmb
      have HHU := Lib.hid (fun W (hW : Ext wA W) => Hull_c sv ev _ sizes es ls W (HP.out.ext hW) (Rows.ext HR.out hW))
      have HRH := Lib.hid (fun W (hW : Ext wA W) => rHull_c sv ev _ sizes es ls W (HP.out.ext hW) (Rows.ext HR.out hW))
      have HIB := Lib.hid (fun W (hW : Ext wA W) => IsBox_c sv ev _ sizes es ls W (HP.out.ext hW) (Rows.ext HR.out hW) (by omega))
      have HRB := Lib.hid (fun W (hW : Ext wA W) => rIsBox_c sv ev _ sizes es ls W (HP.out.ext hW) (Rows.ext HR.out hW))
      have HOL : Hid (hullK sizes es ls = 0 → ∀ k, k < ls.length → (hullV sizes es ls).length = (ls[k]?.getD []).length ∧ (∀ t, t < (hullV sizes es ls).length → -1 ≤ (hullV sizes es ls)[t]?.getD 0) ∧ holdsB (hullV sizes es ls) (ls[k]?.getD []) = true) := Lib.hid (fun h0 k hk => by
        have hV : hullV sizes es ls = hullL ls := by rw [hullV, if_pos h0]
        have hck : checkI sizes es ls = 0 := by
          unfold hullK at h0
          split at h0
          · assumption
          · rename_i h; exact absurd h0 h
        have hlen := checkI_lens hck
        have h1 := hull_len (by omega) hlen
        rw [hV]
        refine ⟨by rw [h1, hlen k hk], fun t ht => ?_, hull_holds hlen (by rw [List.getElem?_eq_getElem hk]; exact List.getElem_mem hk)⟩
        rw [h1] at ht
        have h2 := hullTo_holds (hlen 0 (by omega)) ls.length 0 (by omega) t ht
        have h3 := (isListB_iff _ _ _).1 ((checkI_ok hck).2 0 (by omega))
        have h4 := h3.2 t (by rw [h3.1]; exact ht)
        unfold hullL
        omega)
      generalize hullV sizes es ls = hv at *
      generalize hullK sizes es ls = hk at *
      generalize isBoxB sizes es ls = bx at *
      generalize checkI sizes es ls = ck at *
      have hd1 : (hk != hk) = false := by simp
      have hd2 : (bx != bx) = false := by simp
      have hd3 : (ck != ck) = false := by simp
      go_enter Try.func3, Try.ntmps3
      go_wp2_with fail
      rw [← HW.out]
      refine HLG.out.mono ?_; rintro e w1 ⟨rfl, hx1⟩
      go_wp2_with fail
      refine (HMN.out w1 hx1).mono ?_; rintro e w2 ⟨rfl, hx2⟩
      have hX2 := hx1.trans hx2
      go_wp2_with fail
      refine (HHU.out w2 hX2).mono ?_; rintro e w3 ⟨v3, rfl, hi3, hx3⟩
      have hi3' : Ints w3 v3 hv := hi3
      have HI3 := Lib.hid hi3'
      obtain ⟨a3, c3, rfl, _⟩ := hi3'.open_
      clear hi3 hi3'
      have hX3 := hX2.trans hx3
      go_wp2_with fail
      refine (HRH.out w3 hX3).mono ?_; rintro e w4 ⟨v4, rfl, hi4, hx4⟩
      have hi4' : Ints w4 v4 hv := hi4
      have HI4 := Lib.hid hi4'
      obtain ⟨a4, c4, rfl, _⟩ := hi4'.open_
      clear hi4 hi4'
      have hX4 := hX3.trans hx4
      go_wp2_with fail
      refine (HIB.out w4 hX4).mono ?_; rintro e w5 ⟨rfl, hx5⟩
      have hX5 := hX4.trans hx5
      go_wp2_with fail
      refine (HRB.out w5 hX5).mono ?_; rintro e w6 ⟨rfl, hx6⟩
      have hX6 := hX5.trans hx6
      have HS := Lib.hid (sameInts_h _ _ hv w6 (HI3.out.ext (hx4.trans (hx5.trans hx6))) (HI4.out.ext (hx5.trans hx6)))
      have HX36 := Lib.hid (hx4.trans (hx5.trans hx6))
      clear hx3 hx4 hx5 hx6 hX3 hX4 hX5
      go_wp2_with fail
      refine HS.out.mono ?_; rintro e w7 ⟨rfl, hx7⟩
      have hX7 := hX6.trans hx7
      have HX37 := Lib.hid (HX36.out.trans hx7)
      by_cases h0 : hk = 0
      · subst h0
        have HOL2 := Lib.hid (HOL.out (by first | exact rfl | exact trivial))
        clear HOL
        go_wp2_with fail
        go_loopg [13] ls.length (fun m i wr => ∃ k : Nat, k ≤ ls.length ∧ ls.length ≤ k + m ∧ i = .int .i64 k ∧ Ext w7 wr)
        case atStart => exact ⟨0, by omega, by omega, rfl, Ext.refl _⟩
        case round =>
          obtain ⟨k, hk, hk2, rfl, hB⟩ := hrel
          by_cases hlt : k < ls.length
          · have hkI : (k : Int) < (ls.length : Int) := by omega
            obtain ⟨b, o, rfl, u, hc, hi⟩ := HL.out k hlt
            have hcw := (hX7.trans hB).keep hc
            obtain ⟨g1, g2, g3⟩ := HOL2.out k hlt
            have HRO := Lib.hid (rHolds_c _ u hv (ls[k]?.getD []) wr (HI3.out.ext (HX37.out.trans hB)) (hi.ext (hX7.trans hB)) g1 g2)
            rw [g3] at HRO
            obtain ⟨au, cu, rfl, _⟩ := hi.open_
            clear hi hc g1 g2 g3
            generalize (ls[k]?.getD []).length = un at *
            go_wp2_with fail
            refine HRO.out.mono ?_; rintro e w8 ⟨rfl, nd, rfl⟩
            go_wp2_with fail
            go_roundg (gk-1)
            case measure => omega
            case rel => exact ⟨k+1, by omega, by omega, by go_num, hB.trans (Ext.drewN _ _)⟩
          · have hkI : ¬ (k : Int) < (ls.length : Int) := by omega
            have hXr := hX7.trans hB
            go_wp2_with fail
            refine (known_c _).mono ?_; rintro e wK ⟨rfl, hxK⟩
            go_wp2_with fail
            go_ret
            exact RV.bool rfl (hA.trans (hXr.trans hxK))
      · have hkk : (hk == 0) = false := by simp [h0]
        clear h0 HOL
        have hl00 := hl9
        go_wp2_with fail
        go_loopg [13] 0 (fun m i wr => i = .int .i64 0 ∧ Ext w7 wr)
        case atStart => exact ⟨rfl, Ext.refl _⟩
        case round =>
          obtain ⟨rfl, hB⟩ := hrel
          have hXr := hX7.trans hB
          by_cases hlz : (0 : Int) < (ls.length : Int)
          · have hlz1 := hlz
            go_wp2_with fail
            refine (known_c _).mono ?_; rintro e wK ⟨rfl, hxK⟩
            go_wp2_with fail
            go_ret
            exact RV.bool rfl (hA.trans (hXr.trans hxK))
          · have hlz1 := hlz
            go_wp2_with fail
            refine (known_c _).mono ?_; rintro e wK ⟨rfl, hxK⟩
            go_wp2_with fail
            go_ret
            exact RV.bool rfl (hA.trans (hXr.trans hxK))
    · rw [hmb] at HMN
      clear hmb
      go_enter Try.func3, Try.ntmps3
      go_wp2_with fail
      rw [← HW.out]
      refine HLG.out.mono ?_; rintro e w1 ⟨rfl, hx1⟩
      go_wp2_with fail
      refine (HMN.out w1 hx1).mono ?_; rintro e w2 ⟨rfl, hx2⟩
      have hX2 := hx1.trans hx2
      go_wp2_with fail
      refine (known_c _).mono ?_; rintro e wK ⟨rfl, hxK⟩
      go_wp2_with fail
      go_ret
      exact RV.bool rfl (hA.trans (hX2.trans hxK))
  · go_enter Try.func3, Try.ntmps3
    go_wp2_with fail
    rw [← HW.out]
    refine HLG.out.mono ?_; rintro e w1 ⟨rfl, hx1⟩
    go_wp2_with fail
    refine (known_c _).mono ?_; rintro e wK ⟨rfl, hxK⟩
    go_wp2_with fail
    go_ret
    exact RV.bool rfl (hA.trans (hx1.trans hxK))
end Go.Proofs.Ytdgncnhmgbmpjaa
