/- Machines: Plain of the reference. -/
import Derived.Test.YtpbflkbelhlogaaRComp
namespace Go.Proofs.Ytpbflkbelhlogaa
open Go.RowKit Go.Shelf
set_option linter.unusedVariables false
theorem TurnS.pushA {wA w w' : World} {g2 g3 : Nat} {s : Int} {vo vo' ve : Value} {ar ar' : List Arc} {es : List Int} (h : TurnS wA w g2 g3 s vo ve ar es) (hn : g2 ≠ g3) (hg3 : wA.heap.size ≤ g3)
    (hr : OArcs w' wA.heap.size vo' ar') (hb : Below wA.heap.size w w') (hg : w.grownBy w' vo.ownBlock) : TurnS wA (w'.setCell ⟨g3, 1, none⟩ vo') g2 g3 s vo' ve ar' es := by
  have hb3 := h.box.keptR (by decide) h.arcs hg
  have hb2 := h.res.keptR (by decide) h.arcs hg
  have he := row_keptR h.ends (by decide) h.arcs hg
  refine ⟨(h.ext.upto hb (Nat.le_refl _)).setCell hg3 _ _, row_setR hr hb3 (by decide) 1 vo', row_setR he hb3 (by decide) 1 vo', ?_, hb2.other (fun e => hn e.symm) 1 vo'⟩
  have := hb3.set 1 vo'
  simpa using this
set_option maxHeartbeats 2000000 in
set_option maxRecDepth 100000 in
theorem rPlain_c (n : Int) (w : World) : Calls Try.prog 55 #[.int .i64 n] w (RMac2 (plainM n) (plainK n) w) := by
  obtain ⟨wR, hwR⟩ : ∃ wR, wR = w.alloc (.cells #[.int .i64 0, .slice none 0 0, .slice none 0 0] 25) := ⟨_, rfl⟩
  have hER : Ext w wR := by rw [hwR]; exact Ext.alloc _ _
  have HBX : Hid (Blk wR w.heap.size 25 [.int .i64 0, .slice none 0 0, .slice none 0 0]) := Lib.hid (by rw [hwR]; exact Blk.alloc w _ _)
  have HW := Lib.hid hwR; clear hwR
  have HIN := Lib.hid (rwithin_c n 1 6 wR)
  cases hb : inB n 1 6
  · have HK : Hid (plainM n = ⟨0, [], []⟩ ∧ plainK n = 1) := Lib.hid ⟨by rw [plainM, hb]; rfl, by rw [plainK, hb]; rfl⟩
    rw [hb] at HIN
    clear hb
    have hxx : Ext wR wR := Ext.refl _
    have hM0 : OMac wR wR.heap.size (.slice none 0 0) (.slice none 0 0) ⟨0, [], []⟩ := OMac.nil _ _
    go_enter Try.func55, Try.ntmps55
    go_wp2_with fail
    rw [← HW.out]
    refine HIN.out.mono ?_; rintro e w1 ⟨rfl, rfl⟩
    have hb := HBX.out.ext hxx
    have z0 := hb.cell (i := 0) rfl
    have z1 := hb.cell (i := 1) rfl
    have z2 := hb.cell (i := 2) rfl
    have f0 := hb.frozen 0
    have f1 := hb.frozen 1
    have f2 := hb.frozen 2
    have HBE := Lib.hid (And.intro (hb.store3 (.int .i64 ((⟨0, [], []⟩ : Mac)).s) (.slice none 0 0) (.slice none 0 0)) (And.intro (Ext.store3 (hER.trans hxx) (show w.heap.size ≤ w.heap.size by omega) (.int .i64 ((⟨0, [], []⟩ : Mac)).s) (.slice none 0 0) (.slice none 0 0))
      (hM0.store3 hb (.int .i64 ((⟨0, [], []⟩ : Mac)).s) (.slice none 0 0) (.slice none 0 0))))
    clear hb
    go_wp2_with fail
    obtain ⟨hb2, hx2', hM2⟩ := HBE.out
    clear z0 z1 z2 f0 f1 f2 HBE
    have d0 := hb2.cell (i := 0) rfl
    have d1 := hb2.cell (i := 1) rfl
    have d2 := hb2.cell (i := 2) rfl
    generalize (((wR.setCell ⟨w.heap.size, 0, none⟩ (.int .i64 ((⟨0, [], []⟩ : Mac)).s)).setCell ⟨w.heap.size, 1, none⟩ (.slice none 0 0)).setCell ⟨w.heap.size, 2, none⟩ (.slice none 0 0)) = w4 at *
    refine bodyPost_ret (v := .tuple #[.agg #[.int .i64 ((⟨0, [], []⟩ : Mac)).s, .slice none 0 0, .slice none 0 0], .int .i64 (1)]) (by simp [results, Try.results55, go_sem, d0, d1, d2]) rfl ?_
    exact RMac2.mk HK.out.1 HK.out.2 hM2.mac hx2'
  · obtain ⟨hn1, hn2⟩ := inB_bd hb
    obtain ⟨N, rfl⟩ : ∃ N : Nat, n = N := ⟨n.toNat, by omega⟩
    have HK : Hid (plainM N = ⟨1, plainA N, [0]⟩ ∧ plainK N = 0) := Lib.hid ⟨by rw [plainM, hb, if_pos rfl, Int.toNat_natCast], by rw [plainK, hb]; rfl⟩
    rw [hb] at HIN
    clear hb
    have hgR : w.heap.size < wR.heap.size := HBX.out.lt
    have hq0 := Ext.alloc wR (.cells #[.int .i64 0] 3)
    have hown : OInts 3 (wR.alloc (.cells #[.int .i64 0] 3)) wR.heap.size (.slice (some ⟨wR.heap.size, 0, none⟩) 1 1) [0] := World.ownsRow_lit (size := 1) (e := 3) (base := wR.heap.size) wR #[.int .i64 0] 1 (Nat.le_refl _) (by unfold maxLen; omega) rfl
    have hz1 : (wR.alloc (.cells #[.int .i64 0] 3)).heap.size = wR.heap.size + 1 := by simp
    have HT0 : Hid (TurnS wR ((wR.alloc (.cells #[.int .i64 0] 3)).alloc (.cells #[.int .i64 1, .slice none 0 0, .slice (some ⟨wR.heap.size, 0, none⟩) 1 1] 25)) w.heap.size (wR.heap.size + 1) 1 (.slice none 0 0) (.slice (some ⟨wR.heap.size, 0, none⟩) 1 1) [] [0]) :=
      Lib.hid ⟨hq0.trans (Ext.alloc _ _), World.ownsRow_nil _ _ _ _, hown.ext (Ext.alloc _ _), by rw [← hz1]; exact Blk.alloc _ _ _, (HBX.out.ext hq0).ext (Ext.alloc _ _)⟩
    clear hown hq0 hz1
    go_enter Try.func55, Try.ntmps55
    go_wp2_with fail
    rw [← HW.out]
    refine HIN.out.mono ?_; rintro e w1 ⟨rfl, rfl⟩
    go_wp2_with fail
    go_loopg [5] N (fun z i wr => ∃ (k : Nat) (v1 : Value), k ≤ N ∧ N ≤ k + z ∧ i = .int .i64 k ∧ TurnS wR wr w.heap.size (wR.heap.size + 1) 1 v1 (.slice (some ⟨wR.heap.size, 0, none⟩) 1 1) (plainA k) [0])
    case atStart => exact ⟨0, _, by omega, by omega, rfl, HT0.out⟩
    case round =>
      clear HT0
      obtain ⟨k, v1, hk, hkz, rfl, hT⟩ := hrel
      have hEr : Ext wR wr := hT.ext
      obtain ⟨a1, c1, rfl⟩ := row_open hT.arcs
      by_cases hlt : k < N
      · have hltI : (k : Int) < (N : Int) := by omega
        have HNX := Lib.hid (plainA_next k)
        have hk1 := plainA_len k
        have hlen : (plainA k).length ≤ 1000000 := by omega
        clear hk1
        generalize plainA k = PA at *
        have q1 := hT.box.cell (i := 1) rfl
        have HT := Lib.hid hT; clear hT
        have hszr : wR.heap.size ≤ wr.heap.size := hEr.size
        go_wp2_with (at_builtin; refine wpList_appendArc elArc rfl _ _ rfl rfl rfl HT.out.arcs rfl hszr hlen ?_; intro v6 w6 ho6 hb6 hg6 _; obtain ⟨a6, c6, rfl⟩ := row_open ho6; have HT6 := Lib.hid (HT.out.pushA (by omega) (by omega) ho6 hb6 hg6); have hbk := HT.out.box.keptR (by decide) HT.out.arcs hg6; have z1 := hbk.cell (i := 1) rfl; have f1 := hbk.frozen 1; clear hbk ho6 hb6 hg6 q1)
        go_roundg (gk-1)
        case measure => omega
        case rel => exact ⟨k+1, _, by omega, by omega, by go_num, by rw [HNX.out]; have := HT6.out; rw [List.length_append] at this; exact this⟩
      · obtain rfl : k = N := by omega
        have hltI : ¬ (k : Int) < (k : Int) := by omega
        generalize plainA k = U at *
        have q0 := hT.box.cell (i := 0) rfl
        have q1 := hT.box.cell (i := 1) rfl
        have q2 := hT.box.cell (i := 2) rfl
        have hb := hT.res
        have z0 := hb.cell (i := 0) rfl
        have z1 := hb.cell (i := 1) rfl
        have z2 := hb.cell (i := 2) rfl
        have f0 := hb.frozen 0
        have f1 := hb.frozen 1
        have f2 := hb.frozen 2
        have hgw : w.heap.size ≤ w.heap.size := by omega
        have HBE := Lib.hid (And.intro (hb.store3 (.int .i64 1) (.slice a1 U.length c1) (.slice (some ⟨wR.heap.size, 0, none⟩) 1 1)) (And.intro (Ext.store3 (hER.trans hEr) hgw (.int .i64 1) (.slice a1 U.length c1) (.slice (some ⟨wR.heap.size, 0, none⟩) 1 1))
          (hT.omac.store3 hb (.int .i64 1) (.slice a1 U.length c1) (.slice (some ⟨wR.heap.size, 0, none⟩) 1 1))))
        clear hb hT
        go_wp2_with fail
        obtain ⟨hb2, hx2', hM2⟩ := HBE.out
        clear z0 z1 z2 f0 f1 f2 q0 q1 q2 HBE
        have d0 := hb2.cell (i := 0) rfl
        have d1 := hb2.cell (i := 1) rfl
        have d2 := hb2.cell (i := 2) rfl
        generalize (((wr.setCell ⟨w.heap.size, 0, none⟩ (.int .i64 1)).setCell ⟨w.heap.size, 1, none⟩ (.slice a1 U.length c1)).setCell ⟨w.heap.size, 2, none⟩ (.slice (some ⟨wR.heap.size, 0, none⟩) 1 1)) = w4 at *
        refine bodyPost_ret (v := .tuple #[.agg #[.int .i64 1, .slice a1 U.length c1, .slice (some ⟨wR.heap.size, 0, none⟩) 1 1], .int .i64 0]) (by simp [results, Try.results55, go_sem, d0, d1, d2]) rfl ?_
        exact RMac2.mk HK.out.1 HK.out.2 hM2.mac hx2'
end Go.Proofs.Ytpbflkbelhlogaa
