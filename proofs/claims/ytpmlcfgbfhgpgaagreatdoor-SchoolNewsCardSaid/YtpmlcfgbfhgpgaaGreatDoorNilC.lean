/- What a nil school answers. -/
import Derived.Test.YtpmlcfgbfhgpgaaGreatDoorJoinD
namespace Go.Proofs.YtpmlcfgbfhgpgaaGreatDoor
open Go.RowKit Go.Shelf
set_option linter.unusedVariables false
theorem ints_nil9 (w : World) : Ints w (.slice none 0 0) [] := ⟨none, 0, rfl, Nat.le_refl _, by unfold maxLen; omega, fun i hi => by simp at hi⟩
set_option maxHeartbeats 2000000 in
set_option maxRecDepth 100000 in
theorem nDo_c (t : ByteArray) (w : World) : Calls Tryz.prog 26 #[.pointer none, .string t] w (RV (.int .i64 1) w) := by
  go_enter_defers Tryz.func26, Tryz.ntmps26
  go_wp2_with fail
  exact ⟨_, results_tmp rfl _ _ _, rfl, Ext.refl _⟩
set_option maxHeartbeats 2000000 in
set_option maxRecDepth 100000 in
theorem nlook_c (w : World) : Calls Tryz.prog 68 #[.pointer none] w (RV (.agg #[.slice none 0 0, .slice none 0 0, .bool false, .slice none 0 0, .slice none 0 0, .slice none 0 0, .slice none 0 0, .slice none 0 0]) w) := by
  obtain ⟨wA, hwA⟩ : ∃ wA, wA = w.alloc (.cells #[.slice none 0 0, .slice none 0 0, .bool false, .slice none 0 0, .slice none 0 0, .slice none 0 0, .slice none 0 0, .slice none 0 0] 106) := ⟨_, rfl⟩
  have hXA : Ext w wA := by rw [hwA]; exact Ext.alloc _ _
  have hbA : Blk wA w.heap.size 106 [.slice none 0 0, .slice none 0 0, .bool false, .slice none 0 0, .slice none 0 0, .slice none 0 0, .slice none 0 0, .slice none 0 0] := by rw [hwA]; exact Blk.alloc _ _ _
  have HWA := Lib.hid hwA; clear hwA
  go_enter_defers Tryz.func68, Tryz.ntmps68
  go_upto_region 1 with fail
  rw [← HWA.out]
  generalize hgz : w.heap.size = g at *
  have HGZ := Lib.hid hgz; clear hgz
  have y0 := hbA.cell (i := 0) rfl
  have z0 := hbA.frozen 0
  have y1 := hbA.cell (i := 1) rfl
  have z1 := hbA.frozen 1
  have y2 := hbA.cell (i := 2) rfl
  have z2 := hbA.frozen 2
  have y3 := hbA.cell (i := 3) rfl
  have z3 := hbA.frozen 3
  have y4 := hbA.cell (i := 4) rfl
  have z4 := hbA.frozen 4
  have y5 := hbA.cell (i := 5) rfl
  have z5 := hbA.frozen 5
  have y6 := hbA.cell (i := 6) rfl
  have z6 := hbA.frozen 6
  have y7 := hbA.cell (i := 7) rfl
  have z7 := hbA.frozen 7
  go_wp2_with fail
  obtain ⟨hG2, hE2⟩ := store_box hbA (.slice none 0 0) (.slice none 0 0) (.bool false) (.slice none 0 0) (.slice none 0 0) (.slice none 0 0) (.slice none 0 0) (.slice none 0 0)
  generalize World.setCell _ ⟨g, 7, none⟩ _ = w2 at *
  have r0 := hG2.cell (i := 0) rfl
  have r1 := hG2.cell (i := 1) rfl
  have r2 := hG2.cell (i := 2) rfl
  have r3 := hG2.cell (i := 3) rfl
  have r4 := hG2.cell (i := 4) rfl
  have r5 := hG2.cell (i := 5) rfl
  have r6 := hG2.cell (i := 6) rfl
  have r7 := hG2.cell (i := 7) rfl
  have hXF : Ext w w2 := ((hXA.toX (one g)).trans hE2).ext (fun k hk => by simp [one]; have := HGZ.out; omega)
  exact ⟨_, (by simp [results, Tryz.results68, go_sem, r0, r1, r2, r3, r4, r5, r6, r7]), rfl, hXF⟩
set_option maxHeartbeats 2000000 in
set_option maxRecDepth 100000 in
theorem nLearned_c (w : World) : Calls Tryz.prog 59 #[.pointer none] w (fun e w' => ∃ a c, e = .returned (.slice a 0 c) ∧ Ext w w') := by
  have HL := Lib.hid (nlook_c w)
  have HC := Lib.hid (fun W => cloneInts_c (.slice none 0 0) [] W (ints_nil9 W) (by simp))
  have hfl := fld_kn
  go_enter Tryz.func59, Tryz.ntmps59
  go_wp2_with fail
  refine HL.out.mono ?_; rintro e w1 ⟨rfl, hx1⟩
  go_wp2_with fail
  refine (HC.out w1).mono ?_; rintro e w2 ⟨u2, rfl, ho2, hx2⟩
  obtain ⟨a, c, hu, _⟩ := ho2.ints.open_
  subst hu
  go_wp2_with fail
  go_ret
  exact ⟨a, c, rfl, hx1.trans hx2⟩
set_option maxHeartbeats 2000000 in
set_option maxRecDepth 100000 in
theorem nGrounds_c (w : World) : Calls Tryz.prog 35 #[.pointer none] w (fun e w' => ∃ a c, e = .returned (.slice a 0 c) ∧ Ext w w') := by
  have HL := Lib.hid (nlook_c w)
  have HC := Lib.hid (fun W => cloneInts_c (.slice none 0 0) [] W (ints_nil9 W) (by simp))
  have hfl := fld_gr
  go_enter Tryz.func35, Tryz.ntmps35
  go_wp2_with fail
  refine HL.out.mono ?_; rintro e w1 ⟨rfl, hx1⟩
  go_wp2_with fail
  refine (HC.out w1).mono ?_; rintro e w2 ⟨u2, rfl, ho2, hx2⟩
  obtain ⟨a, c, hu, _⟩ := ho2.ints.open_
  subst hu
  go_wp2_with fail
  go_ret
  exact ⟨a, c, rfl, hx1.trans hx2⟩
set_option maxHeartbeats 2000000 in
set_option maxRecDepth 100000 in
theorem nSlate_c (w : World) : Calls Tryz.prog 28 #[.pointer none] w (fun e w' => ∃ a c, e = .returned (.slice a 0 c) ∧ Ext w w') := by
  have HL := Lib.hid (nlook_c w)
  have HC := Lib.hid (fun W => cloneChs_c (.slice none 0 0) [] W (Cel.nil _ _ _) (by simp))
  have hfl := fld_slate
  go_enter Tryz.func28, Tryz.ntmps28
  go_wp2_with fail
  refine HL.out.mono ?_; rintro e w1 ⟨rfl, hx1⟩
  go_wp2_with fail
  refine (HC.out w1).mono ?_; rintro e w2 ⟨u2, rfl, ho2, hx2⟩
  obtain ⟨a, c, hu, _⟩ := (Cel.own encCh_len ho2).open_
  subst hu
  go_wp2_with fail
  go_ret
  exact ⟨a, c, rfl, hx1.trans hx2⟩
set_option maxHeartbeats 2000000 in
set_option maxRecDepth 100000 in
theorem nForms_c (w : World) : Calls Tryz.prog 60 #[.pointer none] w (fun e w' => ∃ a c, e = .returned (.slice a 0 c) ∧ Ext w w') := by
  have HL := Lib.hid (nlook_c w)
  have hfo := fld_forms
  go_enter Tryz.func60, Tryz.ntmps60
  go_wp2_with fail
  refine HL.out.mono ?_; rintro e w1 ⟨rfl, hx1⟩
  go_wp2_with fail
  go_loopg [10, 3] 1 (fun m i t wr => i = .int .i64 0 ∧ t = .slice none 0 0 ∧ Ext w wr)
  case atStart => exact ⟨rfl, rfl, hx1⟩
  case round =>
    obtain ⟨rfl, rfl, hxr⟩ := hrel
    go_wp2_with fail
    go_ret
    exact ⟨_, _, rfl, hxr⟩
set_option maxHeartbeats 4000000 in
set_option maxRecDepth 100000 in
theorem nWord_c (w : World) : Calls Tryz.prog 27 #[.pointer none] w (fun e w' => ∃ u, e = .returned (.tuple #[u, .bool false]) ∧ Ext w w') := by
  have HL := Lib.hid (nlook_c w)
  go_enter Tryz.func27, Tryz.ntmps27
  go_wp2_with fail
  refine HL.out.mono ?_; rintro e w1 ⟨rfl, hx1⟩
  go_upto_region 2 with fail
  have hb4 := Blk.alloc w1 #[.slice none 0 0, .slice none 0 0, .bool false, .slice none 0 0, .slice none 0 0, .slice none 0 0, .slice none 0 0, .slice none 0 0] 106
  have hx4 := Ext.alloc w1 (.cells #[.slice none 0 0, .slice none 0 0, .bool false, .slice none 0 0, .slice none 0 0, .slice none 0 0, .slice none 0 0, .slice none 0 0] 106)
  generalize w1.alloc (.cells #[.slice none 0 0, .slice none 0 0, .bool false, .slice none 0 0, .slice none 0 0, .slice none 0 0, .slice none 0 0, .slice none 0 0] 106) = w4 at *
  have k2 := hb4.cell (i := 2) rfl
  go_wp2_with fail
  go_ret2
  first | exact ⟨_, rfl, hx1.trans hx4⟩ | exact ⟨⟨_, rfl⟩, hx1.trans hx4⟩
set_option maxHeartbeats 4000000 in
set_option maxRecDepth 100000 in
theorem nEnded_c (w : World) : Calls Tryz.prog 33 #[.pointer none] w (RV (.bool false) w) := by
  have HL := Lib.hid (nlook_c w)
  go_enter Tryz.func33, Tryz.ntmps33
  go_wp2_with fail
  refine HL.out.mono ?_; rintro e w1 ⟨rfl, hx1⟩
  go_upto_region 2 with fail
  have hb4 := Blk.alloc w1 #[.slice none 0 0, .slice none 0 0, .bool false, .slice none 0 0, .slice none 0 0, .slice none 0 0, .slice none 0 0, .slice none 0 0] 106
  have hx4 := Ext.alloc w1 (.cells #[.slice none 0 0, .slice none 0 0, .bool false, .slice none 0 0, .slice none 0 0, .slice none 0 0, .slice none 0 0, .slice none 0 0] 106)
  generalize w1.alloc (.cells #[.slice none 0 0, .slice none 0 0, .bool false, .slice none 0 0, .slice none 0 0, .slice none 0 0, .slice none 0 0, .slice none 0 0] 106) = w4 at *
  have k2 := hb4.cell (i := 2) rfl
  go_wp2_with fail
  go_ret
  first | exact ⟨rfl, hx1.trans hx4⟩ | exact hx1.trans hx4
set_option maxHeartbeats 4000000 in
set_option maxRecDepth 100000 in
theorem nBase_c (w : World) : Calls Tryz.prog 52 #[.pointer none] w (fun e w' => ∃ u, e = .returned (.tuple #[u, .bool false]) ∧ Ext w w') := by
  have HL := Lib.hid (nlook_c w)
  go_enter Tryz.func52, Tryz.ntmps52
  go_wp2_with fail
  refine HL.out.mono ?_; rintro e w1 ⟨rfl, hx1⟩
  go_upto_region 2 with fail
  have hb4 := Blk.alloc w1 #[.slice none 0 0, .slice none 0 0, .bool false, .slice none 0 0, .slice none 0 0, .slice none 0 0, .slice none 0 0, .slice none 0 0] 106
  have hx4 := Ext.alloc w1 (.cells #[.slice none 0 0, .slice none 0 0, .bool false, .slice none 0 0, .slice none 0 0, .slice none 0 0, .slice none 0 0, .slice none 0 0] 106)
  generalize w1.alloc (.cells #[.slice none 0 0, .slice none 0 0, .bool false, .slice none 0 0, .slice none 0 0, .slice none 0 0, .slice none 0 0, .slice none 0 0] 106) = w4 at *
  have k2 := hb4.cell (i := 2) rfl
  have HC := Lib.hid (fun W => cloneInts_c (.slice none 0 0) [] W (ints_nil9 W) (by simp))
  generalize w1.heap.size = g at *
  have hX4 := hx1.trans hx4
  refine wp_region_treeR (fun a b => Ext a b) [] (.look 0 (.look 1 (.look 3 (.look 4 (.one 2 (.look 5 (.look 6 .done))))))) (fun w => Ext.refl w) (fun a b c h k => Ext.trans h k) (by kernel_rfl) (by kernel_rfl) (by intro c a d v w h; cases d <;> exact h) ?_
  have hX0 := hX4.trans (drawnP_ext w4)
  replace hb4 := hb4.ext (drawnP_ext w4)
  generalize { w4 with drawn := w4.drawn + 1 } = W0 at *
  have k3 : ∀ q : InC (fun c => Ext W0 c), q.w.cell? ⟨g, 3, none⟩ = some (.slice none 0 0) := fun q => (hb4.ext q.h).cell rfl
  have k2 : ∀ q : InC (fun c => Ext W0 c), q.w.cell? ⟨g, 2, none⟩ = some (.bool false) := fun q => (hb4.ext q.h).cell rfl
  iterate 4 (refine wpTreeR_look rfl (fun K hK => ?_); go_simp; first | (refine hK _ ?_; clear hK K) | (refine ⟨_, fun _ => rfl, hK _ ?_⟩; clear hK K))
  refine wpTreeR_one rfl rfl (fun K hK => ?_)
  go_wp2_with fail
  refine (HC.out W0).mono ?_; rintro e w5 ⟨u5, rfl, ho5, hx5⟩
  go_wp2_with fail
  refine ⟨.inr hx5, ?_⟩
  iterate 2 (refine wpTreeR_look rfl (fun K hK => ?_); go_simp; first | (refine hK _ ?_; clear hK K) | (refine ⟨_, fun _ => rfl, hK _ ?_⟩; clear hK K))
  refine wpTreeR_done ?_
  go_wp2_with fail
  go_ret2
  exact ⟨_, rfl, hX0.trans hx5⟩
set_option maxHeartbeats 2000000 in
set_option maxRecDepth 100000 in
theorem nBook_c (w : World) (hE : Env w) : Calls Tryz.prog 38 #[.pointer none] w (RV (.string ⟨#[]⟩) w) := by
  have HL := Lib.hid (nlook_c w)
  have HC := Lib.hid (fun W (q : Ext w W) => write_c (.slice none 0 0) [] W (Cel.nil _ _ _) (hE.ext q) (fun t ht => by cases ht) (by simp))
  rw [show (⟨(bookB []).toArray⟩ : ByteArray) = ⟨#[]⟩ from rfl] at HC
  clear hE
  have hfl := fld_orders
  go_enter Tryz.func38, Tryz.ntmps38
  go_wp2_with fail
  refine HL.out.mono ?_; rintro e w1 ⟨rfl, hx1⟩
  go_wp2_with fail
  refine (HC.out w1 hx1).mono ?_; rintro e w2 ⟨rfl, hx2⟩
  go_wp2_with fail
  go_ret
  exact ⟨rfl, hx1.trans hx2⟩
set_option maxHeartbeats 2000000 in
set_option maxRecDepth 100000 in
theorem nAudit_c (w : World) : Calls Tryz.prog 58 #[.pointer none] w (RV (.bool false) w) := by
  go_enter Tryz.func58, Tryz.ntmps58
  go_wp2_with fail
  go_ret
  exact ⟨rfl, Ext.refl _⟩
end Go.Proofs.YtpmlcfgbfhgpgaaGreatDoor
