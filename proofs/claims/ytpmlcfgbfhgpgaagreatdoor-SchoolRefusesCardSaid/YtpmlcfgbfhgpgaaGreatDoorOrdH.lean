/- The winner: the program's way. -/
import Derived.Test.YtpmlcfgbfhgpgaaGreatDoorOrdG
namespace Go.Proofs.YtpmlcfgbfhgpgaaGreatDoor
open Go.RowKit Go.Shelf
set_option linter.unusedVariables false
def canAt (C : List Can) (i : Nat) : Can := C[i]?.getD ⟨0, 0, 0, .slice none 0 0, .slice none 0 0, .slice none 0 0⟩
structure Cans (w : World) (s : List Rul) (v : Value) (C : List Can) (ST : List Stp) : Prop where
 cel : Cel encC 6 w v C
 is : C.map Can.stp = ST
 ok : ∀ i, i < C.length → CanG w s (canAt C i)
 inj : ∀ i k, i < C.length → k < C.length → (stpAt ST i = stpAt ST k ↔ i = k)
theorem Cans.ext {w w' : World} {s : List Rul} {v : Value} {C : List Can} {ST : List Stp} (h : Cans w s v C ST) (hx : Ext w w') : Cans w' s v C ST :=
 ⟨h.cel.ext hx, h.is, fun i hi => (h.ok i hi).ext hx, h.inj⟩
theorem Cans.len {w : World} {s : List Rul} {v : Value} {C : List Can} {ST : List Stp} (h : Cans w s v C ST) : ST.length = C.length := by rw [← h.is]; simp
theorem Cans.stp {w : World} {s : List Rul} {v : Value} {C : List Can} {ST : List Stp} (h : Cans w s v C ST) {i : Nat} (hi : i < C.length) : (canAt C i).stp = stpAt ST i := by
 unfold stpAt canAt
 rw [← h.is, List.getElem?_map, List.getElem?_eq_getElem hi]; rfl
theorem Cans.cells {w : World} {s : List Rul} {v : Value} {C : List Can} {ST : List Stp} (h : Cans w s v C ST) :
  ∃ (a : Option Addr) (cap : Nat), v = .slice a C.length cap ∧ C.length ≤ cap ∧ cap ≤ 9223372036854775807 ∧
   Hid (∀ i, i < C.length → ∃ b o, a = some ⟨b, o, none⟩ ∧ w.cell? ⟨b, o + i * 6, none⟩ = some (.int .i64 (canAt C i).k) ∧ w.cell? ⟨b, o + i * 6 + 1, none⟩ = some (.int .i64 (canAt C i).p) ∧ w.cell? ⟨b, o + i * 6 + 2, none⟩ = some (.int .i64 (canAt C i).f) ∧
    w.cell? ⟨b, o + i * 6 + 3, none⟩ = some (canAt C i).t ∧ w.cell? ⟨b, o + i * 6 + 4, none⟩ = some (canAt C i).l ∧ w.cell? ⟨b, o + i * 6 + 5, none⟩ = some (canAt C i).r) := by
 obtain ⟨a, c, hv, h1, h2, H⟩ := h.cel.open_
 refine ⟨a, c, hv, h1, h2, Lib.hid fun i hi => ?_⟩
 obtain ⟨b, o, ha, hc⟩ := H.out i C[i] (List.getElem?_eq_getElem hi)
 have e : canAt C i = C[i] := by unfold canAt; rw [List.getElem?_eq_getElem hi]; rfl
 rw [e]
 exact ⟨b, o, ha, hc 0 _ rfl, hc 1 _ rfl, hc 2 _ rfl, hc 3 _ rfl, hc 4 _ rfl, hc 5 _ rfl⟩
set_option maxHeartbeats 4000000 in
set_option maxRecDepth 100000 in
theorem champion_c (s : List Rul) (wv gv v : Value) (l gs : List Int) (C : List Can) (ST : List Stp) (w : World) (hw : Ints w wv l) (hg : Ints w gv gs) (hgr : GrOk gs) (hC : Cans w s v C ST) (h0 : C.length ≠ 0) (hC54 : C.length ≤ 54) :
  Calls Tryz.prog 113 #[wv, gv, v] w (RV (.tuple #[if scanOk s l gs ST then canV (canAt C (scanI s l gs ST)) else .agg #[.int .i64 0, .int .i64 0, .int .i64 0, .slice none 0 0, .slice none 0 0, .slice none 0 0], .bool (scanOk s l gs ST)]) w) := by
 have HB := Lib.hid (fun i k (hi : i < C.length) (hk : k < C.length) W (h : Ext w W) => oBeats_c s wv gv l gs (canAt C i) (canAt C k) W (hw.ext h) (hg.ext h) hgr ((hC.ok i hi).ext h) ((hC.ok k hk).ext h))
 have HST := Lib.hid (fun i (hi : i < C.length) => hC.stp hi)
 have HOK := Lib.hid hC.ok
 have HIN := Lib.hid hC.inj
 have hlen := hC.len
 obtain ⟨a, c, rfl, h1, h2, H⟩ := hC.cells
 obtain ⟨aw, cw, rfl, _⟩ := hw.open_
 obtain ⟨ag, cg, rfl, _⟩ := hg.open_
 clear hw hg hgr hC
 obtain ⟨b, o, rfl, c0, c1, c2, c3, c4, c5⟩ := H.out 0 (by omega)
 obtain ⟨k0, p0, x0, ta, tc, la, lc, ra, rc, e0, _⟩ := (HOK.out 0 (by omega)).lit
 rw [e0] at c0 c1 c2 c3 c4 c5
 dsimp only at c0 c1 c2 c3 c4 c5
 rw [Nat.zero_mul, Nat.add_zero] at c0 c1 c2 c3 c4 c5
 have HSC : Hid ((scanOk s l gs ST = true → (if scanOk s l gs ST then canV (canAt C (scanI s l gs ST)) else .agg #[.int .i64 0, .int .i64 0, .int .i64 0, .slice none 0 0, .slice none 0 0, .slice none 0 0]) = canV (canAt C (scanI s l gs ST))) ∧ (scanOk s l gs ST = false → (if scanOk s l gs ST then canV (canAt C (scanI s l gs ST)) else .agg #[.int .i64 0, .int .i64 0, .int .i64 0, .slice none 0 0, .slice none 0 0, .slice none 0 0]) = .agg #[.int .i64 0, .int .i64 0, .int .i64 0, .slice none 0 0, .slice none 0 0, .slice none 0 0])) :=
  Lib.hid ⟨fun h => by rw [h, if_pos rfl], fun h => by rw [h, if_neg (by decide)]⟩
 generalize (if scanOk s l gs ST then canV (canAt C (scanI s l gs ST)) else .agg #[.int .i64 0, .int .i64 0, .int .i64 0, .slice none 0 0, .slice none 0 0, .slice none 0 0]) = RES at *
 obtain ⟨wA, hwA⟩ : ∃ wA, wA = w.alloc (.cells #[.int .i64 0, .int .i64 0, .int .i64 0, .slice none 0 0, .slice none 0 0, .slice none 0 0] 165) := ⟨_, rfl⟩
 have hEA : Ext w wA := by rw [hwA]; exact Ext.alloc _ _
 have hbA : Blk wA w.heap.size 165 [.int .i64 0, .int .i64 0, .int .i64 0, .slice none 0 0, .slice none 0 0, .slice none 0 0] := by rw [hwA]; exact Blk.alloc _ _ _
 have HWA := Lib.hid hwA; clear hwA
 replace c0 := hEA.keep c0
 replace c1 := hEA.keep c1
 replace c2 := hEA.keep c2
 replace c3 := hEA.keep c3
 replace c4 := hEA.keep c4
 replace c5 := hEA.keep c5
 have hb8 := Blk.alloc wA #[.int .i64 k0, .int .i64 p0, .int .i64 x0.f, .slice ta x0.t.length tc, .slice la x0.l.length lc, .slice ra x0.r.length rc] 165
 have hb6 := hbA.ext (Ext.alloc wA (.cells #[.int .i64 k0, .int .i64 p0, .int .i64 x0.f, .slice ta x0.t.length tc, .slice la x0.l.length lc, .slice ra x0.r.length rc] 165))
 have hEB := hEA.trans (Ext.alloc wA (.cells #[.int .i64 k0, .int .i64 p0, .int .i64 x0.f, .slice ta x0.t.length tc, .slice la x0.l.length lc, .slice ra x0.r.length rc] 165))
 have hls := hbA.lt
 have hsz : wA.heap.size ≠ w.heap.size := by omega
 obtain ⟨A, hA⟩ : ∃ A, (if c = 1 then (some ⟨b, o, none⟩ : Option Addr) else some ⟨b, o + 6, none⟩) = A := ⟨_, rfl⟩
 have HA : Hid (1 < C.length → A = some ⟨b, o + 6, none⟩) := Lib.hid fun h => by rw [← hA, if_neg (by omega)]
 go_enter Tryz.func113, Tryz.ntmps113
 go_upto_region 1 with fail
 rw [← HWA.out]
 go_upto_region 2 with fail
 have HS8 := Lib.hid (fun (W : World) (i : Nat) (v : Value) (h : Ext w W) => h.setCell (c := wA.heap.size) hEA.size i v)
 have HS6 := Lib.hid (fun (W : World) (i : Nat) (v : Value) (h : Ext w W) => h.setCell (c := w.heap.size) (Nat.le_refl _) i v)
 generalize wA.heap.size = g8 at *
 generalize wA.alloc (.cells #[.int .i64 k0, .int .i64 p0, .int .i64 x0.f, .slice ta x0.t.length tc, .slice la x0.l.length lc, .slice ra x0.r.length rc] 165) = wB at *
 generalize w.heap.size = g6 at *
 clear c0 c1 c2 c3 c4 c5 hbA hEA
 go_wp2_with fail
 go_loopg [19] (C.length - 1) (fun m i wr => ∃ k : Nat, k ≤ C.length - 1 ∧ C.length - 1 ≤ k + m ∧ i = .int .i64 k ∧ Ext w wr ∧ Blk wr g6 165 [.int .i64 0, .int .i64 0, .int .i64 0, .slice none 0 0, .slice none 0 0, .slice none 0 0] ∧ Blk wr g8 165 (encC (canAt C (scanTo s l gs ST k))))
 case atStart => exact ⟨0, by omega, by omega, rfl, hEB, hb6, by rw [show scanTo s l gs ST 0 = 0 from rfl, e0]; exact hb8⟩
 case round =>
  clear hb6 hb8 hEB
  obtain ⟨k, hk, hk2, rfl, hB, hb6, hb8⟩ := hrel
  have hsl := scanTo_le s l gs ST k
  have hsi : scanTo s l gs ST k < C.length := by omega
  by_cases hlt : k < C.length - 1
  ·obtain ⟨b', o', hbo, c0, c1, c2, c3, c4, c5⟩ := H.out (k + 1) (by omega)
   injection hbo with hbo; injection hbo with hb1 hb2 _; subst hb1 hb2
   obtain rfl := HA.out (by omega)
   have e6 : o + (k + 1) * 6 = o + 6 + k * 6 := by omega
   rw [e6] at c0 c1 c2 c3 c4 c5
   obtain ⟨kn, pn, xn, tan, tcn, lan, lcn, ran, rcn, en, _⟩ := (HOK.out (k + 1) (by omega)).lit
   obtain ⟨kj, pj, xj, taj, tcj, laj, lcj, raj, rcj, ej, _⟩ := (HOK.out _ hsi).lit
   have HBC := Lib.hid (HB.out (scanTo s l gs ST k) (k + 1) hsi (by omega))
   rw [HST.out _ hsi, HST.out (k + 1) (by omega)] at HBC
   have HSN := Lib.hid (show scanTo s l gs ST (k + 1) = if beatsZ s l gs (stpAt ST (scanTo s l gs ST k)) (stpAt ST (k + 1)) ≤ 0 then k + 1 else scanTo s l gs ST k from rfl)
   have EN := Lib.hid en
   have EJ := Lib.hid ej
   rw [en] at c0 c1 c2 c3 c4 c5
   rw [ej] at hb8
   rw [en, ej] at HBC
   unfold canV at HBC
   dsimp only [encC] at c0 c1 c2 c3 c4 c5 hb8 HBC
   generalize beatsZ s l gs (stpAt ST (scanTo s l gs ST k)) (stpAt ST (k + 1)) = Z at *
   clear en ej
   replace c0 := hB.keep c0
   replace c1 := hB.keep c1
   replace c2 := hB.keep c2
   replace c3 := hB.keep c3
   replace c4 := hB.keep c4
   replace c5 := hB.keep c5
   have d0 := hb8.cell (i := 0) rfl
   have d1 := hb8.cell (i := 1) rfl
   have d2 := hb8.cell (i := 2) rfl
   have d3 := hb8.cell (i := 3) rfl
   have d4 := hb8.cell (i := 4) rfl
   have d5 := hb8.cell (i := 5) rfl
   obtain ⟨wD, hwD⟩ : ∃ wD, wD = wr.alloc (.cells #[.int .i64 kn, .int .i64 pn, .int .i64 xn.f, .slice tan xn.t.length tcn, .slice lan xn.l.length lcn, .slice ran xn.r.length rcn] 165) := ⟨_, rfl⟩
   have hED : Ext wr wD := by rw [hwD]; exact Ext.alloc _ _
   have hbD : Blk wD wr.heap.size 165 [.int .i64 kn, .int .i64 pn, .int .i64 xn.f, .slice tan xn.t.length tcn, .slice lan xn.l.length lcn, .slice ran xn.r.length rcn] := by rw [hwD]; exact Blk.alloc _ _ _
   have HWD := Lib.hid hwD; clear hwD
   go_upto_region 5 with fail
   rw [← HWD.out]
   generalize wr.heap.size = gD at *
   clear c0 c1 c2 c3 c4 c5
   have f0 := hbD.cell (i := 0) rfl
   have f1 := hbD.cell (i := 1) rfl
   have f2 := hbD.cell (i := 2) rfl
   have f3 := hbD.cell (i := 3) rfl
   have f4 := hbD.cell (i := 4) rfl
   have f5 := hbD.cell (i := 5) rfl
   replace d0 := hED.keep d0
   replace d1 := hED.keep d1
   replace d2 := hED.keep d2
   replace d3 := hED.keep d3
   replace d4 := hED.keep d4
   replace d5 := hED.keep d5
   by_cases hz : Z ≤ 0
   ·have HZ := Lib.hid hz
    go_wp2_with fail
    refine (HBC.out wD (hB.trans hED)).mono ?_; rintro e w1 ⟨rfl, hx1⟩
    replace f0 := hx1.keep f0
    replace f1 := hx1.keep f1
    replace f2 := hx1.keep f2
    replace f3 := hx1.keep f3
    replace f4 := hx1.keep f4
    replace f5 := hx1.keep f5
    have hb8' := (hb8.ext hED).ext hx1
    have hb6' := (hb6.ext hED).ext hx1
    replace d0 := hx1.keep d0
    replace d1 := hx1.keep d1
    replace d2 := hx1.keep d2
    replace d3 := hx1.keep d3
    replace d4 := hx1.keep d4
    replace d5 := hx1.keep d5
    have z0 := hb8'.frozen 0
    have z1 := hb8'.frozen 1
    have z2 := hb8'.frozen 2
    have z3 := hb8'.frozen 3
    have z4 := hb8'.frozen 4
    have z5 := hb8'.frozen 5
    go_wp2_with fail
    go_roundg (gk-1)
    case measure => omega
    case rel => exact ⟨k+1, by omega, by omega, by go_num, HS8.out _ _ _ (HS8.out _ _ _ (HS8.out _ _ _ (HS8.out _ _ _ (HS8.out _ _ _ (HS8.out _ _ _ (hB.trans (hED.trans hx1))))))), (((((hb6'.other hsz 0 _).other hsz 1 _).other hsz 2 _).other hsz 3 _).other hsz 4 _).other hsz 5 _,
     by rw [HSN.out, if_pos HZ.out, EN.out]; exact (((((hb8'.set 0 _).set 1 _).set 2 _).set 3 _).set 4 _).set 5 _⟩
   ·have HZ := Lib.hid hz
    go_wp2_with fail
    refine (HBC.out wD (hB.trans hED)).mono ?_; rintro e w1 ⟨rfl, hx1⟩
    go_wp2_with fail
    go_roundg (gk-1)
    case measure => omega
    case rel => exact ⟨k+1, by omega, by omega, by go_num, hB.trans (hED.trans hx1), (hb6.ext hED).ext hx1, by rw [HSN.out, if_neg (by have := HZ.out; omega), EJ.out]; exact (hb8.ext hED).ext hx1⟩
  ·obtain rfl : k = C.length - 1 := by omega
   have hI : scanTo s l gs ST (C.length - 1) = scanI s l gs ST := by unfold scanI; rw [hlen]
   have hOK : scanOk s l gs ST = allB C.length fun k => k == scanI s l gs ST || decide (0 < beatsZ s l gs (stpAt ST (scanI s l gs ST)) (stpAt ST k)) := by unfold scanOk; rw [hlen]
   rw [hI] at hb8 hsi
   generalize scanI s l gs ST = I at *
   have HOKB := Lib.hid hOK; clear hOK hI hsl hk hk2
   generalize scanOk s l gs ST = OK at *
   obtain ⟨kj, pj, xj, taj, tcj, laj, lcj, raj, rcj, ej, _⟩ := (HOK.out I hsi).lit
   rw [ej] at hb8
   dsimp only [encC] at hb8
   have EJ := Lib.hid ej; clear ej
   go_wp2_with fail
   go_loopg [33] C.length (fun m i wr => ∃ k : Nat, k ≤ C.length ∧ C.length ≤ k + m ∧ i = .int .i64 k ∧ Ext w wr ∧ Blk wr g6 165 [.int .i64 0, .int .i64 0, .int .i64 0, .slice none 0 0, .slice none 0 0, .slice none 0 0] ∧ Blk wr g8 165 [.int .i64 kj, .int .i64 pj, .int .i64 xj.f, .slice taj xj.t.length tcj, .slice laj xj.l.length lcj, .slice raj xj.r.length rcj] ∧ Hid (∀ j, j < k → (j == I || decide (0 < beatsZ s l gs (stpAt ST I) (stpAt ST j))) = true))
   case atStart => exact ⟨0, by omega, by omega, rfl, hB, hb6, hb8, fun j hj => by omega⟩
   case round =>
    clear hb6 hb8 hB
    obtain ⟨k, hk, hk2, rfl, hB, hb6, hb8, hE⟩ := hrel
    have d0 := hb8.cell (i := 0) rfl
    have d1 := hb8.cell (i := 1) rfl
    have d2 := hb8.cell (i := 2) rfl
    have d3 := hb8.cell (i := 3) rfl
    have d4 := hb8.cell (i := 4) rfl
    have d5 := hb8.cell (i := 5) rfl
    by_cases hlt : k < C.length
    ·obtain ⟨b', o', hbo, c0, c1, c2, c3, c4, c5⟩ := H.out k hlt
     injection hbo with hbo; injection hbo with hb1 hb2 _; subst hb1 hb2
     obtain ⟨kn, pn, xn, tan, tcn, lan, lcn, ran, rcn, en, _⟩ := (HOK.out k hlt).lit
     have HBC := Lib.hid (HB.out I k hsi hlt)
     have hst1 := HST.out I hsi
     have hst2 := HST.out k hlt
     have hinj := HIN.out I k hsi hlt
     rw [hst1, hst2] at HBC
     rw [EJ.out] at hst1
     rw [en] at hst2
     rw [← hst1, ← hst2] at hinj
     have hst1 := Lib.hid hst1
     have hst2 := Lib.hid hst2
     unfold Can.stp at hinj
     rw [en] at c0 c1 c2 c3 c4 c5
     rw [en, EJ.out] at HBC
     unfold canV at HBC
     dsimp only at c0 c1 c2 c3 c4 c5 HBC hinj
     generalize hz : beatsZ s l gs (stpAt ST I) (stpAt ST k) = Z at *
     have HZE := Lib.hid hz; clear hz
     clear en
     replace c0 := hB.keep c0
     replace c1 := hB.keep c1
     replace c2 := hB.keep c2
     replace c3 := hB.keep c3
     replace c4 := hB.keep c4
     replace c5 := hB.keep c5
     obtain ⟨wD, hwD⟩ : ∃ wD, wD = wr.alloc (.cells #[.int .i64 kn, .int .i64 pn, .int .i64 xn.f, .slice tan xn.t.length tcn, .slice lan xn.l.length lcn, .slice ran xn.r.length rcn] 165) := ⟨_, rfl⟩
     have hED : Ext wr wD := by rw [hwD]; exact Ext.alloc _ _
     have hbD : Blk wD wr.heap.size 165 [.int .i64 kn, .int .i64 pn, .int .i64 xn.f, .slice tan xn.t.length tcn, .slice lan xn.l.length lcn, .slice ran xn.r.length rcn] := by rw [hwD]; exact Blk.alloc _ _ _
     have HWD := Lib.hid hwD; clear hwD
     have HINJ := Lib.hid hinj; clear hinj
     go_upto_region 11 with fail
     rw [← HWD.out]
     generalize wr.heap.size = gD at *
     clear c0 c1 c2 c3 c4 c5
     have f0 := hbD.cell (i := 0) rfl
     have f1 := hbD.cell (i := 1) rfl
     have f2 := hbD.cell (i := 2) rfl
     have f3 := hbD.cell (i := 3) rfl
     have f4 := hbD.cell (i := 4) rfl
     have f5 := hbD.cell (i := 5) rfl
     replace d0 := hED.keep d0
     replace d1 := hED.keep d1
     replace d2 := hED.keep d2
     replace d3 := hED.keep d3
     replace d4 := hED.keep d4
     replace d5 := hED.keep d5
     by_cases hIk : k = I
     ·have hpe := HINJ.out.2 hIk.symm
      injection hpe with hpe1 hpe2
      subst hpe1 hpe2
      have HIK := Lib.hid hIk; clear hIk
      go_wp2_with fail
      go_roundg (gk-1)
      case measure => omega
      case rel => exact ⟨k+1, by omega, by omega, by go_num, hB.trans hED, hb6.ext hED, hb8.ext hED, fun j hj => by
       by_cases e : j = k
       ·rw [e, HIK.out]; simp
       ·exact hE.out j (by omega)⟩
     ·have hne : ¬ (kj = kn ∧ pj = pn) := fun h => hIk (HINJ.out.1 (by rw [h.1, h.2])).symm
      have HIK := Lib.hid hIk; clear hIk
      have hcase : (kj = kn ∧ ¬ pj = pn) ∨ ¬ kj = kn := by
       by_cases h : kj = kn
       ·exact .inl ⟨h, fun h2 => hne ⟨h, h2⟩⟩
       ·exact .inr h
      clear hne
      rcases hcase with ⟨rfl, hne⟩ | hne
      all_goals
       by_cases hz : Z ≤ 0
       ·have HNO := Lib.hid (show OK = false by
         rw [HOKB.out, allB_false hlt]
         rw [HZE.out]; simp [HIK.out]; omega)
        have HRE := Lib.hid (HSC.out.2 HNO.out)
        go_wp2_with fail
        refine (HBC.out wD (hB.trans hED)).mono ?_; rintro e w1 ⟨rfl, hx1⟩
        have y6 := (hb6.ext hED).ext hx1
        have z0 := y6.frozen 0
        have z1 := y6.frozen 1
        have z2 := y6.frozen 2
        have z3 := y6.frozen 3
        have z4 := y6.frozen 4
        have z5 := y6.frozen 5
        have y0 := y6.cell (i := 0) rfl
        have y1 := y6.cell (i := 1) rfl
        have y2 := y6.cell (i := 2) rfl
        have y3 := y6.cell (i := 3) rfl
        have y4 := y6.cell (i := 4) rfl
        have y5 := y6.cell (i := 5) rfl
        go_wp2_with fail
        have hfin := HS6.out _ 5 (.slice none 0 0) (HS6.out _ 4 (.slice none 0 0) (HS6.out _ 3 (.slice none 0 0) (HS6.out _ 2 (.int .i64 0) (HS6.out _ 1 (.int .i64 0) (HS6.out _ 0 (.int .i64 0) (hB.trans (hED.trans hx1)))))))
        have hbf := (((((y6.set 0 (.int .i64 0)).set 1 (.int .i64 0)).set 2 (.int .i64 0)).set 3 (.slice none 0 0)).set 4 (.slice none 0 0)).set 5 (.slice none 0 0)
        have q0 := hbf.cell (i := 0) (v := .int .i64 0) rfl
        have q1 := hbf.cell (i := 1) (v := .int .i64 0) rfl
        have q2 := hbf.cell (i := 2) (v := .int .i64 0) rfl
        have q3 := hbf.cell (i := 3) (v := .slice none 0 0) rfl
        have q4 := hbf.cell (i := 4) (v := .slice none 0 0) rfl
        have q5 := hbf.cell (i := 5) (v := .slice none 0 0) rfl
        generalize World.setCell _ ⟨g6, 5, none⟩ _ = wF at *
        refine bodyPost_ret (v := .tuple #[.agg #[.int .i64 0, .int .i64 0, .int .i64 0, .slice none 0 0, .slice none 0 0, .slice none 0 0], .bool false]) (by simp [results, Tryz.results113, go_sem, q0, q1, q2, q3, q4, q5]) rfl ⟨by rw [HRE.out, HNO.out], hfin⟩
       ·have hz2 : 0 < Z := by omega
        have HZ2 := Lib.hid hz2
        go_wp2_with fail
        refine (HBC.out wD (hB.trans hED)).mono ?_; rintro e w1 ⟨rfl, hx1⟩
        go_wp2_with fail
        go_roundg (gk-1)
        case measure => omega
        case rel => exact ⟨k+1, by omega, by omega, by go_num, hB.trans (hED.trans hx1), (hb6.ext hED).ext hx1, (hb8.ext hED).ext hx1, fun j hj => by
         by_cases e : j = k
         ·rw [e, HZE.out]; simp [HZ2.out]
         ·exact hE.out j (by omega)⟩
    ·have HYES := Lib.hid (show OK = true by rw [HOKB.out, allB_true fun j hj => hE.out j (by omega)])
     have HRE := Lib.hid (HSC.out.1 HYES.out)
     have z0 := hb6.frozen 0
     have z1 := hb6.frozen 1
     have z2 := hb6.frozen 2
     have z3 := hb6.frozen 3
     have z4 := hb6.frozen 4
     have z5 := hb6.frozen 5
     have y0 := hb6.cell (i := 0) rfl
     have y1 := hb6.cell (i := 1) rfl
     have y2 := hb6.cell (i := 2) rfl
     have y3 := hb6.cell (i := 3) rfl
     have y4 := hb6.cell (i := 4) rfl
     have y5 := hb6.cell (i := 5) rfl
     go_wp2_with fail
     have hfin := (HS6.out _ 5 (.slice raj xj.r.length rcj) (HS6.out _ 4 (.slice laj xj.l.length lcj) (HS6.out _ 3 (.slice taj xj.t.length tcj) (HS6.out _ 2 (.int .i64 xj.f) (HS6.out _ 1 (.int .i64 pj) (HS6.out _ 0 (.int .i64 kj) hB))))))
     have hbf := ((((((hb6.set 0 (.int .i64 kj)).set 1 (.int .i64 pj)).set 2 (.int .i64 xj.f)).set 3 (.slice taj xj.t.length tcj)).set 4 (.slice laj xj.l.length lcj)).set 5 (.slice raj xj.r.length rcj))
     have q0 := hbf.cell (i := 0) (v := .int .i64 kj) rfl
     have q1 := hbf.cell (i := 1) (v := .int .i64 pj) rfl
     have q2 := hbf.cell (i := 2) (v := .int .i64 xj.f) rfl
     have q3 := hbf.cell (i := 3) (v := .slice taj xj.t.length tcj) rfl
     have q4 := hbf.cell (i := 4) (v := .slice laj xj.l.length lcj) rfl
     have q5 := hbf.cell (i := 5) (v := .slice raj xj.r.length rcj) rfl
     generalize World.setCell _ ⟨g6, 5, none⟩ _ = wF at *
     refine bodyPost_ret (v := .tuple #[.agg #[.int .i64 kj, .int .i64 pj, .int .i64 xj.f, .slice taj xj.t.length tcj, .slice laj xj.l.length lcj, .slice raj xj.r.length rcj], .bool true]) (by simp [results, Tryz.results113, go_sem, q0, q1, q2, q3, q4, q5]) rfl ⟨by rw [HRE.out, HYES.out, EJ.out]; rfl, hfin⟩
end Go.Proofs.YtpmlcfgbfhgpgaaGreatDoor
