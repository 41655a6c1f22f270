/- Walk: Swap of the reference. -/
import Derived.Test.YtoepnpjjmfhnnaaSwap
import Derived.Deep.Cut
namespace Go.Proofs.Ytoepnpjjmfhnnaa
open Go.RowKit Go.Shelf
set_option linter.unusedVariables false

set_option maxHeartbeats 2000000 in
set_option maxRecDepth 100000 in
theorem rSwap_c (sv ev : Value) (sizes : List Int) (es : List Ent) (i j : Int) (w : World) (hp : Par w sv ev sizes es) :
    Calls Try.prog 30 #[.agg #[sv, ev], .int .i64 i, .int .i64 j] w (RP2 (swS sizes es i j) (swE sizes es i j) (nK sizes es i j) w) := by
  have HP := Lib.hid hp
  clear hp
  obtain ⟨wA, hwA⟩ : ∃ wA, wA = (w.alloc (.cells #[sv, ev] 25)).alloc (.cells #[.slice none 0 0, .slice none 0 0] 25) := ⟨_, rfl⟩
  have hE0 : Ext w wA := by rw [hwA]; exact (Ext.alloc _ _).trans (Ext.alloc _ _)
  have hz1 : BoxP wA w.heap.size sv ev := by rw [hwA]; exact (BoxP.new w _ _ rfl).ext (Ext.alloc _ _)
  have hz2 : BoxP wA (w.heap.size + 1) (.slice none 0 0) (.slice none 0 0) := by rw [hwA]; exact BoxP.new _ _ _ (by simp)
  have hb0 := hz1.c0
  have hb1 := hz1.c1
  have HNB := Lib.hid (rNumbered_c sv ev sizes es i j wA (HP.out.ext hE0))
  have HW := Lib.hid hwA; clear hwA hz1
  by_cases h0 : nK sizes es i j = 0
  · obtain ⟨V, a, b, rfl, rfl, hai, hbj⟩ := nK_zero h0
    rw [show swS sizes es a b = sizes by rw [swS, if_pos h0], show swE sizes es a b = swapE es a b by rw [swE, if_pos h0]; rfl]
    rw [h0] at HNB
    rw [h0]
    have HCP := Lib.hid (fun W (h : Ext w W) => rCopy_c sv ev sizes es W (HP.out.ext h) (by have := V.n; omega) (by have := V.ok.2.1; omega) (fun i hi => by rw [V.len i hi]; have := V.ok.2.1; omega))
    have hen := V.n
    clear h0 V
    go_enter Try.func30, Try.ntmps30
    go_wp2_with fail
    rw [← HW.out]
    refine HNB.out.mono ?_; rintro e w1 ⟨rfl, hB⟩
    have hb0 := hB.keep hb0
    have hb1 := hB.keep hb1
    have hX := hE0.trans hB
    have hs1 := hX.size
    go_wp2_with fail
    refine (HCP.out w1 hX).mono ?_; rintro e w2 ⟨sv2, ev2, rfl, hov, hoe, hx2⟩
    obtain ⟨a2, c2, rfl, _⟩ := hov.ints.open_
    have hoe := OEnts.low hoe (show w.heap.size ≤ w1.heap.size by omega)
    have hov := OInts.low hov (show w.heap.size ≤ w1.heap.size by omega)
    obtain ⟨g, cap, ua, rfl, hca, hoa, hfa⟩ := hoe.at_ hai
    obtain ⟨_, _, ub, hg, hcb, hob, hfb⟩ := hoe.at_ hbj
    injection hg with hg _ hg2; injection hg with hg; injection hg with hg; subst hg hg2
    obtain ⟨xa, ya, rfl, _⟩ := hoa.ints.open_
    obtain ⟨xb, yb, rfl, _⟩ := hob.ints.open_
    generalize hna : (ent es a).1.length = na at *
    generalize hnb : (ent es b).1.length = nb at *
    clear hna hnb
    have hrow := hoe.row
    have hA3 := Ext.alloc w2 (.cells #[.slice a2 sizes.length c2, .slice (some ⟨g, 0, none⟩) es.length cap] 25)
    have hbox := BoxP.new w2 (.slice a2 sizes.length c2) (.slice (some ⟨g, 0, none⟩) es.length cap) rfl
    have hrb := ((hz2.ext hB).ext hx2).ext hA3
    have hX3 := (hX.trans hx2).trans hA3
    have hs2 := hx2.size
    go_wp2_with fail
    have hE5 : Ext w2 (w2.alloc (.cells #[.slice a2 sizes.length c2, .slice (some ⟨g, 0, none⟩) es.length cap] 25)) := hA3
    have hca := hA3.keep hca
    have hcb := hA3.keep hcb
    have hfa := hA3.keep hfa
    have hfb := hA3.keep hfb
    have hoe := OEnts.ext hoe hA3
    have hov := OInts.ext hov hA3
    have hoa := OInts.ext hoa hA3
    have hob := OInts.ext hob hA3
    have hrow := hoe.row
    generalize (w2.alloc (.cells #[.slice a2 sizes.length c2, .slice (some ⟨g, 0, none⟩) es.length cap] 25)) = W5 at *
    refine wp_region_peek (Ext W5) (fun _ => True) [] [.look 0, .look 1, .look 2, .look 3, .look 4, .look 5, .look 6, .look 7, .look 8, .look 9, .par 10 11, .go 12, .go 13] (by kernel_rfl) (by kernel_rfl) (by intro c a d v w h; cases d <;> exact h) ?_
    have hd : Ext W5 { W5 with drawn := W5.drawn + 1 } := drawn_ext W5
    have q0 := fun s : InC (Ext W5) => (hbox.ext s.h).c1
    have q1 := fun s : InC (Ext W5) => s.h.keep hca
    have q2 := fun s : InC (Ext W5) => s.h.keep hcb
    have q3 := fun s : InC (Ext W5) => s.h.keep hfa
    have q4 := fun s : InC (Ext W5) => s.h.keep hfb
    generalize { W5 with drawn := W5.drawn + 1 } = W1 at *
    iterate 10 (refine wpPeek_look rfl ‹_› (fun K hK => ?_); go_simp; first | (refine hK _ ?_; clear hK K) | (refine ⟨_, fun _ => rfl, hK _ ?_⟩; clear hK K))
    clear q0 q1 q2 q3 q4
    have hoe5 := Lib.hid hoe
    refine ⟨?_, ?_⟩
    focus
      refine wpOp_of_list rfl rfl (fun K hK => ?_)
      go_wp2_with fail
      refine ⟨⟨.inr (fun h => h.trans (Ext.alloc _ _)), fun _ => trivial⟩, ?_⟩
      refine wpOp_of_list rfl rfl (fun K hK => ?_)
      go_wp2_with fail
      refine ⟨⟨.inr (fun h => h.trans (Ext.alloc _ _)), fun _ => trivial⟩, ?_⟩
      have hx1 := (BoxX.new W1 (.slice none 0 0) (.int .i64 0) rfl).ext (Ext.alloc _ (.cells #[.slice none 0 0, .int .i64 0] 54))
      have hx2 := BoxX.new (W1.alloc (.cells #[.slice none 0 0, .int .i64 0] 54)) (.slice none 0 0) (.int .i64 0) (g := W1.heap.size + 1) (by simp)
      have hd2 := (hd.trans (Ext.alloc _ (.cells #[.slice none 0 0, .int .i64 0] 54))).trans (Ext.alloc _ (.cells #[.slice none 0 0, .int .i64 0] 54))
      have hge : W5.heap.size ≤ W1.heap.size := hd.size
      have hge1 : W5.heap.size ≤ W1.heap.size := by omega
      have hge2 : W5.heap.size ≤ W1.heap.size + 1 := by omega
      have hne : W1.heap.size ≠ W1.heap.size + 1 := by omega
      have hne2 : W1.heap.size + 1 ≠ W1.heap.size := by omega
      clear hd hge
      generalize (W1.alloc (.cells #[.slice none 0 0, .int .i64 0] 54)).alloc (.cells #[.slice none 0 0, .int .i64 0] 54) = W2 at *
      generalize hg2 : W1.heap.size + 1 = g2 at *
      generalize hg1 : W1.heap.size = g1 at *
      clear hg1 hg2
      have hne := Lib.hid hne
      have hne2 := Lib.hid hne2
    rotate_left
    focus
      refine wpOp_of_list rfl rfl (fun K hK => ?_)
      go_wp2_with fail
      refine ⟨⟨.inr (fun h => h.trans (Ext.alloc _ _)), fun _ => trivial⟩, ?_⟩
      refine wpOp_of_list rfl rfl (fun K hK => ?_)
      go_wp2_with fail
      refine ⟨⟨.inr (fun h => h.trans (Ext.alloc _ _)), fun _ => trivial⟩, ?_⟩
      have hx2 := (BoxX.new W1 (.slice none 0 0) (.int .i64 0) rfl).ext (Ext.alloc _ (.cells #[.slice none 0 0, .int .i64 0] 54))
      have hx1 := BoxX.new (W1.alloc (.cells #[.slice none 0 0, .int .i64 0] 54)) (.slice none 0 0) (.int .i64 0) (g := W1.heap.size + 1) (by simp)
      have hd2 := (hd.trans (Ext.alloc _ (.cells #[.slice none 0 0, .int .i64 0] 54))).trans (Ext.alloc _ (.cells #[.slice none 0 0, .int .i64 0] 54))
      have hge : W5.heap.size ≤ W1.heap.size := hd.size
      have hge1 : W5.heap.size ≤ W1.heap.size + 1 := by omega
      have hge2 : W5.heap.size ≤ W1.heap.size := by omega
      have hne : W1.heap.size + 1 ≠ W1.heap.size := by omega
      have hne2 : W1.heap.size ≠ W1.heap.size + 1 := by omega
      clear hd hge
      generalize (W1.alloc (.cells #[.slice none 0 0, .int .i64 0] 54)).alloc (.cells #[.slice none 0 0, .int .i64 0] 54) = W2 at *
      generalize hg1 : W1.heap.size + 1 = g1 at *
      generalize hg2 : W1.heap.size = g2 at *
      clear hg1 hg2
      have hne := Lib.hid hne
      have hne2 := Lib.hid hne2
    all_goals
      have q0 := hx1.c0
      have q1 := hx1.c1
      have f0 := hx1.frozen 0
      have f1 := hx1.frozen 1
      refine wpPeek_go rfl rfl (fun K hK => ?_)
      go_wp2_with fail
      refine ⟨⟨.inr (fun h => (h.setCell hge1 0 _).setCell hge1 1 _), fun _ => trivial⟩, ?_⟩
      clear q0 q1 f0 f1
      have hd3 := (hd2.setCell hge1 0 (.slice xa na ya)).setCell hge1 1 (.int .i64 (ent es a).2)
      have hx1 := hx1.set01 (.slice xa na ya) (.int .i64 (ent es a).2)
      have hx2 := hx2.other hne.out 0 1 (.slice xa na ya) (.int .i64 (ent es a).2)
      generalize (W2.setCell ⟨g1, 0, none⟩ (.slice xa na ya)).setCell ⟨g1, 1, none⟩ (.int .i64 (ent es a).2) = W3 at *
      have q0 := hx2.c0
      have q1 := hx2.c1
      have f0 := hx2.frozen 0
      have f1 := hx2.frozen 1
      refine wpPeek_go rfl rfl (fun K hK => ?_)
      go_wp2_with fail
      refine ⟨⟨.inr (fun h => (h.setCell hge2 0 _).setCell hge2 1 _), fun _ => trivial⟩, ?_⟩
      refine wpPeek_nil ?_
      clear q0 q1 f0 f1
      have hd4 := (hd3.setCell hge2 0 (.slice xb nb yb)).setCell hge2 1 (.int .i64 (ent es b).2)
      have hx2 := hx2.set01 (.slice xb nb yb) (.int .i64 (ent es b).2)
      have hx1 := hx1.other hne2.out 0 1 (.slice xb nb yb) (.int .i64 (ent es b).2)
      generalize (W3.setCell ⟨g2, 0, none⟩ (.slice xb nb yb)).setCell ⟨g2, 1, none⟩ (.int .i64 (ent es b).2) = W4 at *
      have hX4 := hX3.trans hd4
      have hbd := hbox.ext hd4
      have hca := hd4.keep hca
      have hfa := hd4.keep hfa
      have hoe := OEnts.ext hoe hd4
      have hov := OInts.ext hov hd4
      have hoa := OInts.ext hoa hd4
      have hob := OInts.ext hob hd4
      have hrb := hrb.ext hd4
      have hrow := hoe.row
      have hlt1 : g ≠ g1 := by have := hrow.2.1; have h5 := hge1; have := (OEnts.row hoe5.out).2.1; omega
      have hlt2 : g ≠ g2 := by have h5 := hge2; have := (OEnts.row hoe5.out).2.1; omega
      clear hd2 hd3 hd4 hX3
      have hf0 := hrow.frozen (a * 2)
      have hf1 := hrow.frozen (a * 2 + 1)
      have c1 := hbd.c1
      have q0 := hx2.c0
      have q1 := hx2.c1
      have hlt1 := Lib.hid hlt1; have hlt2 := Lib.hid hlt2
      go_upto_region 7 with (fail)
      have hoe2 := OEnts.put hoe hai (f := (ent es b).2) hob
      have hoa2 := OInts.set2 (i := a * 2) (j := a * 2 + 1) (u := .slice xb nb yb) (x := .int .i64 (ent es b).2) hoa hrow
      have hov2 := OInts.set2 (i := a * 2) (j := a * 2 + 1) (u := .slice xb nb yb) (x := .int .i64 (ent es b).2) hov hrow
      have hrb2 := BoxP.set2 (i := a * 2) (j := a * 2 + 1) (u := .slice xb nb yb) (x := .int .i64 (ent es b).2) hrb hrow
      have hbd2 := BoxP.set2 (i := a * 2) (j := a * 2 + 1) (u := .slice xb nb yb) (x := .int .i64 (ent es b).2) hbd hrow
      have hx12 := hx1.other hlt1.out (a * 2) (a * 2 + 1) (.slice xb nb yb) (.int .i64 (ent es b).2)
      have hX5 := (hX4.setCell hrow.1 (a * 2) (.slice xb nb yb)).setCell hrow.1 (a * 2 + 1) (.int .i64 (ent es b).2)
      clear hoe hoa hov hrb hbd hx1 hX4 hf0 hf1 c1 q0 q1 hca hfa hrow hx2
      generalize (W4.setCell ⟨g, a * 2, none⟩ (.slice xb nb yb)).setCell ⟨g, a * 2 + 1, none⟩ (.int .i64 (ent es b).2) = W6 at *
      have hrow2 := hoe2.row
      obtain ⟨z0, z1, hz0, hz1⟩ := hoe2.cells_ (a := b) (by simpa using hbj)
      obtain ⟨z1', hz1'⟩ : ∃ z, (W6.setCell ⟨g, b * 2, none⟩ (.slice xa na ya)).cell? ⟨g, b * 2 + 1, none⟩ = some z := cell?_setCell_some hz1
      have hf2 := hrow2.frozen (b * 2)
      have hf4 := (hrow2.set (b * 2) (.slice xa na ya)).frozen (b * 2 + 1)
      have d1 := hbd2.c1
      have p0 := hx12.c0
      have p1 := hx12.c1
      go_upto_region 8 with (fail)
      have hoe3 := OEnts.put hoe2 (a := b) (by simpa using hbj) (f := (ent es a).2) hoa2
      have hov3 := OInts.set2 (i := b * 2) (j := b * 2 + 1) (u := .slice xa na ya) (x := .int .i64 (ent es a).2) hov2 hrow2
      have hrb3 := BoxP.set2 (i := b * 2) (j := b * 2 + 1) (u := .slice xa na ya) (x := .int .i64 (ent es a).2) hrb2 hrow2
      have hbd3 := BoxP.set2 (i := b * 2) (j := b * 2 + 1) (u := .slice xa na ya) (x := .int .i64 (ent es a).2) hbd2 hrow2
      have hX6 := (hX5.setCell hrow2.1 (b * 2) (.slice xa na ya)).setCell hrow2.1 (b * 2 + 1) (.int .i64 (ent es a).2)
      clear hf2 hf4 d1 p0 p1 hz0 hz1 hz1'
      generalize (W6.setCell ⟨g, b * 2, none⟩ (.slice xa na ya)).setCell ⟨g, b * 2 + 1, none⟩ (.int .i64 (ent es a).2) = W7 at *
      have s0 := hbd3.c0
      have s1 := hbd3.c1
      have r0 := hrb3.c0
      have r1 := hrb3.c1
      have rf0 := hrb3.frozen 0
      have rf1 := hrb3.frozen 1
      obtain ⟨HF, hp1⟩ := fin2 0 hrb3 (by omega) hov3 hoe3 hX6
      have HFIN := Lib.hid HF; clear HF
      have p2 := hp1.c0
      have p3 := hp1.c1
      clear hp1 hrb3 hbd3 hov3 hoe3 hX6 hoe2 hoa2 hov2 hrb2 hbd2 hx12 hX5 hrow2
      go_wp2_with fail
      refine bodyPost_ret (v := .tuple #[.agg #[.slice a2 sizes.length c2, .slice (some ⟨g, 0, none⟩) es.length cap], .int .i64 0]) ?_ rfl HFIN.out
      simp [results, Try.results30, go_sem, p2, p3]
  · rw [show swS sizes es i j = [] by rw [swS, if_neg h0], show swE sizes es i j = [] by rw [swE, if_neg h0]]
    generalize nK sizes es i j = k at *
    have hkn : (k != 0) = true := by simp [h0]
    clear h0
    go_enter Try.func30, Try.ntmps30
    go_wp2_with fail
    rw [← HW.out]
    refine HNB.out.mono ?_; rintro e w1 ⟨rfl, hB⟩
    have hrb := hz2.ext hB
    have hX := hE0.trans hB
    have r0 := hrb.c0
    have r1 := hrb.c1
    have rf0 := hrb.frozen 0
    have rf1 := hrb.frozen 1
    obtain ⟨HF, hp1⟩ := fin2 k hrb (by omega) (OInts.nil _ _ _) (OEnts.nil _ _) hX
    have HFIN := Lib.hid HF; clear HF
    have q0 := hp1.c0
    have q1 := hp1.c1
    clear hp1 hrb
    go_wp2_with fail
    refine bodyPost_ret (v := .tuple #[.agg #[.slice none 0 0, .slice none 0 0], .int .i64 k]) ?_ rfl HFIN.out
    simp [results, Try.results30, go_sem, q0, q1]
end Go.Proofs.Ytoepnpjjmfhnnaa
