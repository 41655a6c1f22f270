/- MachineTurns: for every input the call returns true. No condition. -/
import Derived.Test.YtodhmkbkcjpnkaaMacS
import Derived.Test.YtodhmkbkcjpnkaaMacO
namespace Go.Proofs.Ytodhmkbkcjpnkaa
open Go.RowKit Go.Shelf
set_option linter.unusedVariables false

theorem turnX_len (m : Mac) : (turnX m).a.length ≤ m.a.length ∧ (turnX m).e.length ≤ m.e.length := by
  unfold turnX
  split
  · simp [turnM]
  · simp
theorem turnX_ok {m : Mac} (h : validM m = 0) : turnM m = turnX m ∧ turnX (turnX m) = m ∧ validM (turnX m) = 0 := by
  have h1 : turnX m = turnM m := by rw [turnX, if_pos h]
  have h2 : validM (turnM m) = 0 := by rw [validM_turn, h]
  rw [h1]
  exact ⟨rfl, by rw [turnX, if_pos h2, turn_turn], h2⟩
theorem sameWords_same3 (va vb : Value) (a : List (List Int)) (w : World) (ha : Rows w va a) (hb : Rows w vb a) : Calls Try.prog 26 #[va, vb] w (RQ true w) := by
  have := sameWords_c va vb a a w ha hb
  rwa [show rowsB a a = true by rw [rowsB_iff]; simp] at this
theorem set_in (o : Int) : ∀ (l : List Arc) (k : Nat), k < l.length → (l.flatMap encA).set (k * 4 + 2) (.int .i64 o) = (l.set k ⟨(arcA l k).f, (arcA l k).t, o, (arcA l k).o⟩).flatMap encA
  | [], k, h => absurd h (Nat.not_lt_zero k)
  | x :: l, 0, _ => by simp [encA, arcA, List.flatMap_cons]
  | x :: l, k + 1, h => by
    have := set_in o l k (by simpa using h)
    rw [List.flatMap_cons, List.set_append_right _ _ (by rw [encA_len]; omega), List.set_cons_succ, List.flatMap_cons]
    rw [encA_len, show (k + 1) * 4 + 2 - 4 = k * 4 + 2 by omega, this]
    rfl
/-- a machine of one's own whose numbers are written over -/
structure WS (w4 w : World) (g6 : Nat) (s : Int) (av ev : Value) (n ne : Nat) : Prop where
  ext : Ext w4 w
  box : Blk w g6 25 [.int .i64 s, av, ev]
  mac : ∃ (ar : List Arc) (es : List Int), ar.length = n ∧ es.length = ne ∧ w.ownsRow w4.heap.size 50 4 av n (ar.flatMap encA) ∧ OInts 3 w w4.heap.size ev es
theorem WS.arc {w4 w : World} {g6 : Nat} {s : Int} {av ev : Value} {n ne : Nat} (h : WS w4 w g6 s av ev n ne) {k : Nat} (hk : k < n) : ∃ g cap, av = .slice (some ⟨g, 0, none⟩) n cap ∧ n ≤ cap ∧ cap ≤ 9223372036854775807 ∧ (∃ x, w.cell? ⟨g, k * 4 + 2, none⟩ = some (.int .i64 x)) ∧ w.frozen? ⟨g, k * 4 + 2, none⟩ = false ∧
    Hid (WS w4 (w.setCell ⟨g, k * 4 + 2, none⟩ (.int .i64 (-1))) g6 s av ev n ne) := by
  obtain ⟨ar, es, rfl, h2, h3, h4⟩ := h.mac
  have hfl := flat_len encA encA_len ar
  rcases h3.2 with ⟨_, h1⟩ | ⟨g, cap, cur, rfl, hg, hh, hnc, hm, hcs, ht⟩
  · omega
  · have hp : ar[k]? = some (arcA ar k) := by unfold arcA; rw [List.getElem?_eq_getElem hk]; rfl
    refine ⟨g, cap, rfl, hnc, hm, ⟨(arcA ar k).i, ?_⟩, by simp [World.frozen?, hh], Lib.hid ⟨h.ext.setCell hg _ _, h.box.setO (by decide) h3, ar.set k ⟨(arcA ar k).f, (arcA ar k).t, -1, (arcA ar k).o⟩, es, ?_, h2, ?_, row_keptR h4 (by decide) h3 (grownBy_set w g _ _)⟩⟩
    · rw [h3.cellAt (k * 4 + 2) (by omega), flat_get encA encA_len ar k 2 _ hp (by omega)]; rfl
    · exact List.length_set
    · rw [← set_in (-1) ar k hk]
      exact ownsRow_set h3 (by omega) _
theorem WS.end_ {w4 w : World} {g6 : Nat} {s : Int} {av ev : Value} {n ne : Nat} (h : WS w4 w g6 s av ev n ne) {k : Nat} (hk : k < ne) : ∃ g cap, ev = .slice (some ⟨g, 0, none⟩) ne cap ∧ ne ≤ cap ∧ cap ≤ 9223372036854775807 ∧ (∃ x, w.cell? ⟨g, k, none⟩ = some (.int .i64 x)) ∧ w.frozen? ⟨g, k, none⟩ = false ∧
    Hid (WS w4 (w.setCell ⟨g, k, none⟩ (.int .i64 (-1))) g6 s av ev n ne) := by
  obtain ⟨ar, es, h1, rfl, h3, h4⟩ := h.mac
  rcases h4.2 with ⟨_, h1⟩ | ⟨g, cap, cur, rfl, hg, hh, hnc, hm, hcs, ht⟩
  · omega
  · refine ⟨g, cap, rfl, hnc, hm, ⟨es[k], ?_⟩, by simp [World.frozen?, hh], Lib.hid ⟨h.ext.setCell hg _ _, h.box.setO (by decide) h4, ar, es.set k (-1), h1, by simp, row_keptR h3 (by decide) h4 (grownBy_set w g _ _), ?_⟩⟩
    · rw [World.ownsRow.cellAt h4 k (by omega), show (ints es)[k]? = some (.int .i64 es[k]) by unfold ints; rw [List.getElem?_map, List.getElem?_eq_getElem hk]; rfl]
    · have := ownsRow_set (i := k) h4 (by simpa [ints] using hk) (.int .i64 (-1))
      unfold OInts
      rw [List.length_set, show ints (es.set k (-1)) = (ints es).set k (.int .i64 (-1)) from by simp [ints, List.map_set]]; exact this

set_option maxHeartbeats 4000000 in
set_option maxRecDepth 100000 in
theorem machineTurns_c (av ev : Value) (m : Mac) (vv : Value) (v : List Int) (w : World) (h : MacR w av ev m) (hv : Ints w vv v) :
    Calls Try.prog 7 #[.agg #[.int .i64 m.s, av, ev], vv] w (RV (.bool true) w) := by
  obtain ⟨wA, hwA⟩ : ∃ wA, wA = w.alloc (.cells #[.int .i64 m.s, av, ev] 25) := ⟨_, rfl⟩
  have hE0 : Ext w wA := by rw [hwA]; exact Ext.alloc _ _
  have k0 : ∀ W, Ext wA W → W.cell? ⟨w.heap.size, 0, none⟩ = some (.int .i64 m.s) := by rw [hwA]; exact kept_alloc w _ _ rfl
  have k1 : ∀ W, Ext wA W → W.cell? ⟨w.heap.size, 1, none⟩ = some av := by rw [hwA]; exact kept_alloc w _ _ rfl
  have k2 : ∀ W, Ext wA W → W.cell? ⟨w.heap.size, 2, none⟩ = some ev := by rw [hwA]; exact kept_alloc w _ _ rfl
  have H0 : Ext wA wA := Ext.refl _
  have HR := Lib.hid (h.ext hE0)
  obtain ⟨aa, ca, rfl, hla, hma, HA⟩ := (h.ext hE0).a.open_
  obtain ⟨ae, ce, rfl, hle, hme, HE⟩ := (h.ext hE0).e.open_
  have HI_v := Lib.hid (hv.ext hE0)
  obtain ⟨a_v, c_v, rfl, _, _, HU_v⟩ := (hv.ext hE0).open_
  have hxL := Ext.alloc wA (.cells #[.slice a_v v.length c_v] 23)
  have HLG := Lib.hid (by have := Long_c _ _ _ m [v] _ (HR.out.ext hxL) (rows_new wA [.slice a_v v.length c_v] [v] (by exact (AllInts.cons HI_v.out (AllInts.nil _))) (by simp)); rw [show wA.heap.size = w.heap.size + 1 by rw [hwA]; simp] at this; exact this)
  have HW := Lib.hid hwA; clear hwA h hv
  have HLB := Lib.hid (longM_bd (m := m) (ls := [v]))
  generalize longM m [v] = b1 at *
  cases b1
  · have HLB2 := HLB.out rfl
    clear HLB
    go_enter Try.func7, Try.ntmps7
    go_wp2_with fail
    rw [← HW.out]
    refine HLG.out.mono ?_; rintro e w2 ⟨rfl, hx2⟩
    replace hx2 := hxL.trans hx2
    clear HLG
    go_wp2_with fail
    have htl := turnX_len m
    refine (rCopy_c _ _ m w2 (HR.out.ext hx2) (by omega) (by omega)).mono ?_; rintro e w3 ⟨av1, ev1, rfl, hF3, hx3⟩
    obtain ⟨⟨a1, c1, rfl⟩, a2, c2, rfl⟩ := hF3.open_
    have hX3 := hx2.trans hx3
    obtain ⟨w4, hw4⟩ : ∃ w4, w4 = w3.alloc (.cells #[.int .i64 m.s, .slice a1 m.a.length c1, .slice a2 m.e.length c2] 25) := ⟨_, rfl⟩
    have hY4 : Ext w3 w4 := by rw [hw4]; exact Ext.alloc _ _
    have u0 : ∀ W, Ext w4 W → W.cell? ⟨w3.heap.size, 0, none⟩ = some (.int .i64 m.s) := by rw [hw4]; exact kept_alloc w3 _ _ rfl
    have u1 : ∀ W, Ext w4 W → W.cell? ⟨w3.heap.size, 1, none⟩ = some (.slice a1 m.a.length c1) := by rw [hw4]; exact kept_alloc w3 _ _ rfl
    have u2 : ∀ W, Ext w4 W → W.cell? ⟨w3.heap.size, 2, none⟩ = some (.slice a2 m.e.length c2) := by rw [hw4]; exact kept_alloc w3 _ _ rfl
    have HM5 := Lib.hid (hF3.mac.ext hY4)
    have hX4 := hX3.trans hY4
    have HW4 := Lib.hid hw4; clear hw4 hF3 hx3 hY4 hX3
    have HTX := Lib.hid (turnX_ok (m := m))
    have HTC := Lib.hid (Turn_c _ _ m w4 HM5.out (by omega) (by omega))
    go_wp2_with fail
    rw [← HW4.out]
    refine HTC.out.mono ?_; rintro e w5 ⟨avT, evT, rfl, hO5, hx5⟩
    clear HTC
    obtain ⟨⟨aT, cT, rfl⟩, eT, dT, rfl⟩ := hO5.open_
    have HRT := Lib.hid (fun W (hW : Ext wA W) => rTurn_c _ _ m W (HR.out.ext hW) (by omega) (by omega))
    generalize turnX m = mt at *
    obtain ⟨w6, hw6⟩ : ∃ w6, w6 = w5.alloc (.cells #[.int .i64 mt.s, .slice aT mt.a.length cT, .slice eT mt.e.length dT] 25) := ⟨_, rfl⟩
    have hY6 : Ext w5 w6 := by rw [hw6]; exact Ext.alloc _ _
    have t0 : ∀ W, Ext w6 W → W.cell? ⟨w5.heap.size, 0, none⟩ = some (.int .i64 mt.s) := by rw [hw6]; exact kept_alloc w5 _ _ rfl
    have t1 : ∀ W, Ext w6 W → W.cell? ⟨w5.heap.size, 1, none⟩ = some (.slice aT mt.a.length cT) := by rw [hw6]; exact kept_alloc w5 _ _ rfl
    have t2 : ∀ W, Ext w6 W → W.cell? ⟨w5.heap.size, 2, none⟩ = some (.slice eT mt.e.length dT) := by rw [hw6]; exact kept_alloc w5 _ _ rfl
    have HO6 := Lib.hid (hO5.ext hY6)
    have hZ4 : Ext w4 w6 := hx5.trans hY6
    have HB6 : Hid (Blk w6 w5.heap.size 25 [.int .i64 mt.s, .slice aT mt.a.length cT, .slice eT mt.e.length dT]) := Lib.hid (by rw [hw6]; exact Blk.alloc w5 _ _)
    have hZA := hX4.trans hZ4
    have hZAr := hZA
    rw [hw6] at hZAr
    have HW6 := Lib.hid hw6; clear hw6 hO5 hx5 hY6
    generalize hkk : validM m = k at *
    have HKK := Lib.hid hkk; clear hkk
    go_wp2_with fail
    rw [← HW6.out]
    clear hZAr
    refine (HRT.out w6 hZA).mono ?_; rintro e w7 ⟨av8, ev8, rfl, hM8, hx7⟩
    clear HRT
    obtain ⟨a8, c8, rfl, _⟩ := hM8.a.open_
    obtain ⟨e8, d8, rfl, _⟩ := hM8.e.open_
    obtain ⟨w8, hw8⟩ : ∃ w8, w8 = w7.alloc (.cells #[.int .i64 mt.s, .slice a8 mt.a.length c8, .slice e8 mt.e.length d8] 25) := ⟨_, rfl⟩
    have hY8 : Ext w7 w8 := by rw [hw8]; exact Ext.alloc _ _
    have s0 : ∀ W, Ext w8 W → W.cell? ⟨w7.heap.size, 0, none⟩ = some (.int .i64 mt.s) := by rw [hw8]; exact kept_alloc w7 _ _ rfl
    have s1 : ∀ W, Ext w8 W → W.cell? ⟨w7.heap.size, 1, none⟩ = some (.slice a8 mt.a.length c8) := by rw [hw8]; exact kept_alloc w7 _ _ rfl
    have s2 : ∀ W, Ext w8 W → W.cell? ⟨w7.heap.size, 2, none⟩ = some (.slice e8 mt.e.length d8) := by rw [hw8]; exact kept_alloc w7 _ _ rfl
    have hZ6 : Ext w6 w8 := hx7.trans hY8
    have HSM := Lib.hid (same_c _ _ _ _ mt w8 (HO6.out.mac.ext hZ6) (hM8.ext hY8))
    replace hZ4 := hZ4.trans hZ6
    replace hZA := hZA.trans hZ6
    have hx7_ := Lib.hid hx7
    have hZ6r := hZ6
    rw [hw8] at hZ6r
    have HW8 := Lib.hid hw8; clear hw8 hM8 hx7 hY8
    have hkn : (k != k) = false := by simp
    have hX7 : Ext w6 w7 := hx7_.out
    go_wp2_with fail
    rw [← HW8.out]
    clear hZ6r
    refine HSM.out.mono ?_; rintro e w9 ⟨rfl, hx9⟩
    clear HSM
    replace hZ6 := hZ6.trans hx9
    replace hZ4 := hZ4.trans hx9
    replace hZA := hZA.trans hx9
    clear s0 s1 s2 hx9
    by_cases hk0 : k = 0
    · subst hk0
      obtain ⟨htm, htt, htv⟩ := HTX.out rfl
      have HTC := Lib.hid (Turn_c _ _ mt w9 (HO6.out.mac.ext hZ6) (by omega) (by omega))
      rw [htt, htv] at HTC
      have HIM := Lib.hid (fun W (hW : Ext w6 W) (hV : Ext wA W) => Images_c _ _ _ mt v W (HO6.out.mac.ext hW) (HI_v.out.ext hV))
      have HSO := Lib.hid (fun W (hV : Ext wA W) => Sources_c _ _ _ m v W (HR.out.ext hV) (HI_v.out.ext hV) (by omega) (by omega))
      rw [htm] at HSO
      clear htm htt htv
      generalize imagesL mt v = L at *
      generalize imagesK mt v = ik at *
      have hikn : (ik != ik) = false := by simp
      go_wp2_with fail
      refine HTC.out.mono ?_; rintro e w10 ⟨avB, evB, rfl, hOB, hx10⟩
      obtain ⟨⟨aB, cB, rfl⟩, eB, dB, rfl⟩ := hOB.open_
      clear HTC
      obtain ⟨w12, hw12⟩ : ∃ w12, w12 = w10.alloc (.cells #[.int .i64 m.s, .slice aB m.a.length cB, .slice eB m.e.length dB] 25) := ⟨_, rfl⟩
      have hY12 : Ext w10 w12 := by rw [hw12]; exact Ext.alloc _ _
      have r0 : ∀ W, Ext w12 W → W.cell? ⟨w10.heap.size, 0, none⟩ = some (.int .i64 m.s) := by rw [hw12]; exact kept_alloc w10 _ _ rfl
      have r1 : ∀ W, Ext w12 W → W.cell? ⟨w10.heap.size, 1, none⟩ = some (.slice aB m.a.length cB) := by rw [hw12]; exact kept_alloc w10 _ _ rfl
      have r2 : ∀ W, Ext w12 W → W.cell? ⟨w10.heap.size, 2, none⟩ = some (.slice eB m.e.length dB) := by rw [hw12]; exact kept_alloc w10 _ _ rfl
      have HMB := Lib.hid (hOB.mac.ext hY12)
      have hN : Ext w9 w12 := hx10.trans hY12
      replace hZ6 := hZ6.trans hN
      replace hZ4 := hZ4.trans hN
      replace hZA := hZA.trans hN
      have hZ6r := hZ6
      rw [hw12] at hZ6r
      have hZAr := hZA
      rw [hw12] at hZAr
      have HW12 := Lib.hid hw12; clear hw12 hOB hx10 hY12 hN
      have hZ12 := Ext.refl w12
      have HIM2 := Lib.hid (HIM.out w12 hZ6 hZA)
      go_wp2_with fail
      rw [← HW12.out]
      clear hZ6r hZAr
      refine HIM2.out.mono ?_; rintro e w13 ⟨v13, rfl, hv13, hx13⟩
      clear HIM HIM2
      have HV13 : Hid (Rows w13 v13 L) := Lib.hid hv13; clear hv13
      replace hZ6 := hZ6.trans hx13
      replace hZ4 := hZ4.trans hx13
      replace hZA := hZA.trans hx13
      replace hZ12 := hZ12.trans hx13
      clear hx13
      go_wp2_with fail
      refine (HSO.out w13 hZA).mono ?_; rintro e w14 ⟨v14, rfl, hv14, hx14⟩
      have HV14 : Hid (Rows w14 v14 L) := Lib.hid hv14; clear hv14
      have HX14 := Lib.hid hx14
      replace hZ6 := hZ6.trans hx14
      replace hZ4 := hZ4.trans hx14
      replace hZA := hZA.trans hx14
      replace hZ12 := hZ12.trans hx14
      clear hx14 HSO
      have HSB := Lib.hid (same_c _ _ _ _ m w14 (HMB.out.ext hZ12) (HR.out.ext hZA))
      go_wp2_with fail
      refine HSB.out.mono ?_; rintro e w15 ⟨rfl, hx15⟩
      clear HSB
      have HSW := Lib.hid (sameWords_same3 v13 v14 L w15 (Rows.ext HV13.out (HX14.out.trans hx15)) (Rows.ext HV14.out hx15))
      replace hZ6 := hZ6.trans hx15
      replace hZ4 := hZ4.trans hx15
      replace hZA := hZA.trans hx15
      clear hx15 hZ12 r0 r1 r2
      go_wp2_with fail
      refine HSW.out.mono ?_; rintro e w16 ⟨rfl, n16, hw16⟩
      have hx16 : Ext w15 w16 := by rw [hw16]; exact Ext.drewN _ _
      replace hZ6 := hZ6.trans hx16
      replace hZ4 := hZ4.trans hx16
      replace hZA := hZA.trans hx16
      clear hw16 HSW hx16
      have hWS : WS w4 w16 w5.heap.size mt.s (.slice aT mt.a.length cT) (.slice eT mt.e.length dT) mt.a.length mt.e.length := ⟨hZ4, HB6.out.ext hZ6, mt.a, mt.e, rfl, rfl, ownsRow_ext HO6.out.a hZ6, HO6.out.e.ext hZ6⟩
      have HX4 := Lib.hid hX4
      clear hZ4 hZ6 hZA t0 t1 t2 hX4
      go_wp2_with fail
      go_loopg [16] mt.a.length (fun z i wr => ∃ k : Nat, k ≤ mt.a.length ∧ mt.a.length ≤ k + z ∧ i = .int .i64 k ∧ WS w4 wr w5.heap.size mt.s (.slice aT mt.a.length cT) (.slice eT mt.e.length dT) mt.a.length mt.e.length)
      case atStart => exact ⟨0, by omega, by omega, rfl, hWS⟩
      case round =>
        clear hWS
        obtain ⟨k, hk, hkz, rfl, hWS⟩ := hrel
        have b1 := hWS.box.cell (i := 1) rfl
        by_cases hlt : k < mt.a.length
        · obtain ⟨g, cap, he, hc1, hc2, ⟨x, hcx⟩, hfx, hWN⟩ := hWS.arc hlt
          injection he with ha _ hc
          subst ha hc
          clear hWS
          go_wp2_with fail
          go_roundg (gk-1)
          case measure => omega
          case rel => exact ⟨k+1, by omega, by omega, by go_num, hWN.out⟩
        · go_wp2_with fail
          clear hlt hk hkz b1
          go_loopg [17] mt.e.length (fun z i wr => ∃ j : Nat, j ≤ mt.e.length ∧ mt.e.length ≤ j + z ∧ i = .int .i64 j ∧ WS w4 wr w5.heap.size mt.s (.slice aT mt.a.length cT) (.slice eT mt.e.length dT) mt.a.length mt.e.length)
          case atStart => exact ⟨0, by omega, by omega, rfl, hWS⟩
          case round =>
            clear hWS
            obtain ⟨j, hj, hjz, rfl, hWS⟩ := hrel
            have b2 := hWS.box.cell (i := 2) rfl
            by_cases hlt : j < mt.e.length
            · obtain ⟨g, cap, he, hc1, hc2, ⟨x, hcx⟩, hfx, hWN⟩ := hWS.end_ hlt
              injection he with ha _ hc
              subst ha hc
              clear hWS
              go_wp2_with fail
              go_roundg (gk-1)
              case measure => omega
              case rel => exact ⟨j+1, by omega, by omega, by go_num, hWN.out⟩
            · have hE4 := hWS.ext
              have hEA := HX4.out.trans hE4
              have HS2 := Lib.hid (same_c _ _ _ _ m wr (HM5.out.ext hE4) (HR.out.ext hEA))
              clear hWS
              go_wp2_with fail
              refine HS2.out.mono ?_; rintro e w20 ⟨rfl, hx20⟩
              replace hx20 := hEA.trans hx20
              go_wp2_with fail
              refine (sane_c _).mono ?_; rintro e wK ⟨rfl, hxK⟩
              go_wp2_with fail
              go_ret
              exact RV.bool rfl (hE0.trans (hx20.trans hxK))
    · have hkn2 : (k == 0) = false := by simp [hk0]
      clear hk0
      have hWS : WS w4 w9 w5.heap.size mt.s (.slice aT mt.a.length cT) (.slice eT mt.e.length dT) mt.a.length mt.e.length := ⟨hZ4, HB6.out.ext hZ6, mt.a, mt.e, rfl, rfl, ownsRow_ext HO6.out.a hZ6, HO6.out.e.ext hZ6⟩
      have HX4 := Lib.hid hX4
      clear hZ4 hZ6 hZA t0 t1 t2 hX4
      go_wp2_with fail
      go_loopg [16] mt.a.length (fun z i wr => ∃ k : Nat, k ≤ mt.a.length ∧ mt.a.length ≤ k + z ∧ i = .int .i64 k ∧ WS w4 wr w5.heap.size mt.s (.slice aT mt.a.length cT) (.slice eT mt.e.length dT) mt.a.length mt.e.length)
      case atStart => exact ⟨0, by omega, by omega, rfl, hWS⟩
      case round =>
        clear hWS
        obtain ⟨k, hk, hkz, rfl, hWS⟩ := hrel
        have b1 := hWS.box.cell (i := 1) rfl
        by_cases hlt : k < mt.a.length
        · obtain ⟨g, cap, he, hc1, hc2, ⟨x, hcx⟩, hfx, hWN⟩ := hWS.arc hlt
          injection he with ha _ hc
          subst ha hc
          clear hWS
          go_wp2_with fail
          go_roundg (gk-1)
          case measure => omega
          case rel => exact ⟨k+1, by omega, by omega, by go_num, hWN.out⟩
        · go_wp2_with fail
          clear hlt hk hkz b1
          go_loopg [17] mt.e.length (fun z i wr => ∃ j : Nat, j ≤ mt.e.length ∧ mt.e.length ≤ j + z ∧ i = .int .i64 j ∧ WS w4 wr w5.heap.size mt.s (.slice aT mt.a.length cT) (.slice eT mt.e.length dT) mt.a.length mt.e.length)
          case atStart => exact ⟨0, by omega, by omega, rfl, hWS⟩
          case round =>
            clear hWS
            obtain ⟨j, hj, hjz, rfl, hWS⟩ := hrel
            have b2 := hWS.box.cell (i := 2) rfl
            by_cases hlt : j < mt.e.length
            · obtain ⟨g, cap, he, hc1, hc2, ⟨x, hcx⟩, hfx, hWN⟩ := hWS.end_ hlt
              injection he with ha _ hc
              subst ha hc
              clear hWS
              go_wp2_with fail
              go_roundg (gk-1)
              case measure => omega
              case rel => exact ⟨j+1, by omega, by omega, by go_num, hWN.out⟩
            · have hE4 := hWS.ext
              have hEA := HX4.out.trans hE4
              have HS2 := Lib.hid (same_c _ _ _ _ m wr (HM5.out.ext hE4) (HR.out.ext hEA))
              clear hWS
              go_wp2_with fail
              refine HS2.out.mono ?_; rintro e w20 ⟨rfl, hx20⟩
              replace hx20 := hEA.trans hx20
              go_wp2_with fail
              refine (sane_c _).mono ?_; rintro e wK ⟨rfl, hxK⟩
              go_wp2_with fail
              go_ret
              exact RV.bool rfl (hE0.trans (hx20.trans hxK))
  · go_enter Try.func7, Try.ntmps7
    go_wp2_with fail
    rw [← HW.out]
    refine HLG.out.mono ?_; rintro e w2 ⟨rfl, hx2⟩
    replace hx2 := hxL.trans hx2
    go_wp2_with fail
    refine (sane_c _).mono ?_; rintro e wK ⟨rfl, hxK⟩
    go_wp2_with fail
    go_ret
    exact RV.bool rfl (hE0.trans (hx2.trans hxK))
end Go.Proofs.Ytodhmkbkcjpnkaa
