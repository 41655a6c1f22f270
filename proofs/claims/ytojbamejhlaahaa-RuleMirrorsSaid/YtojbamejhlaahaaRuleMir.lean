/- The mirrored rule of the reference. -/
import Derived.Test.YtojbamejhlaahaaRuleCopy
namespace Go.Proofs.Ytojbamejhlaahaa
open Go.RowKit Go.Shelf
set_option linter.unusedVariables false

set_option maxHeartbeats 2000000 in
set_option maxRecDepth 100000 in
theorem rMirror_c (tv lv rv : Value) (x : Rul) (w : World) (h : RulR w tv lv rv x) (hb : longR x = false) : Calls Try.prog 45 #[.agg #[.int .i64 x.f, tv, lv, rv]] w (RRul (mirX x) (validR x) w) := by
  obtain ⟨wA, hwA⟩ : ∃ wA, wA = w.alloc (.cells #[.int .i64 x.f, tv, lv, rv] 24) := ⟨_, rfl⟩
  have hE0 : Ext w wA := by rw [hwA]; exact Ext.alloc _ _
  have k0 : ∀ W, Ext wA W → W.cell? ⟨w.heap.size, 0, none⟩ = some (.int .i64 x.f) := by rw [hwA]; exact kept_alloc w _ _ rfl
  have k1 : ∀ W, Ext wA W → W.cell? ⟨w.heap.size, 1, none⟩ = some tv := by rw [hwA]; exact kept_alloc w _ _ rfl
  have k2 : ∀ W, Ext wA W → W.cell? ⟨w.heap.size, 2, none⟩ = some lv := by rw [hwA]; exact kept_alloc w _ _ rfl
  have k3 : ∀ W, Ext wA W → W.cell? ⟨w.heap.size, 3, none⟩ = some rv := by rw [hwA]; exact kept_alloc w _ _ rfl
  have H0 : Ext wA wA := Ext.refl _
  have HR := Lib.hid (h.ext hE0)
  obtain ⟨al_, cl_, rfl, _⟩ := h.l.open_
  obtain ⟨ar_, cr_, rfl, _⟩ := h.r.open_
  have HV := Lib.hid (fun W (hW : Ext wA W) => rValidate_c _ _ _ x W (HR.out.ext hW))
  obtain ⟨hbt, hbl, hbr⟩ := longR_le hb
  have HW := Lib.hid hwA; clear hwA h hb
  unfold mirX
  by_cases h0 : validR x = 0
  · rw [if_pos h0]
    rw [h0] at HV ⊢
    clear h0
    go_enter Try.func45, Try.ntmps45
    go_wp2_with fail
    rw [← HW.out]
    obtain ⟨wB, hwB⟩ : ∃ wB, wB = wA.alloc (.cells #[.int .i64 0, .slice none 0 0, .slice none 0 0, .slice none 0 0] 24) := ⟨_, rfl⟩
    have hEB : Ext wA wB := by rw [hwB]; exact Ext.alloc _ _
    rw [← hwB]
    refine (HV.out wB hEB).mono ?_; rintro e w1 ⟨rfl, hx1⟩
    have hX1 := hEB.trans hx1
    have hsA : wA.heap.size = w.heap.size + 1 := by rw [HW.out]; simp
    have hbx : BoxR w1 (w.heap.size + 1) (.int .i64 0) (.slice none 0 0) (.slice none 0 0) (.slice none 0 0) := (by rw [hwB]; exact BoxR.new wA _ _ _ _ hsA : BoxR wB _ _ _ _ _).ext hx1
    have z0 := hbx.c0
    have z1 := hbx.c1
    have z2 := hbx.c2
    have z3 := hbx.c3
    have f0 := hbx.frozen 0
    have f1 := hbx.frozen 1
    have f2 := hbx.frozen 2
    have f3 := hbx.frozen 3
    go_wp2_with fail
    refine wp_region_peek (Ext w1) (fun _ => True) [11] [.look 0, .look 1, .look 2, .look 3, .look 5, .look 6, .look 7, .look 8, .go 4, .look 9, .go 10, .go 11, .peek 12] (by kernel_rfl) (by kernel_rfl) (by intro c a d v w h; cases d <;> exact h) ?_
    have hd : Ext w1 { w1 with drawn := w1.drawn + 1 } := drawn_ext w1
    have hs : ∀ s : InC (Ext w1), Ext wA s.w := fun s => hX1.trans s.h
    generalize { w1 with drawn := w1.drawn + 1 } = W1 at *
    iterate 8 (refine wpPeek_look rfl ‹_› (fun K hK => ?_); go_simp; first | (refine hK _ ?_; clear hK K) | (refine ⟨_, fun _ => rfl, hK _ ?_⟩; clear hK K))
    refine wpPeek_go rfl rfl (fun K hK => ?_)
    go_wp2_with fail
    refine (rback_c _ x.t W1 (HR.out.t.ext (hX1.trans hd)) (by omega)).mono ?_; rintro e W2 ⟨v2, rfl, ho2, hy2⟩
    obtain ⟨a20, c20, rfl, _⟩ := ho2.ints.open_
    have HO2 : Hid (Ints W2 (.slice a20 x.t.length c20) x.t.reverse) := (by have := ho2.ints; rwa [List.length_reverse] at this); clear ho2
    go_wp2_with fail
    refine ⟨KeepE.of (fun h => h.trans hy2) (fun _ => trivial), ?_⟩
    have hd2 := hd.trans hy2
    clear hd
    (refine wpPeek_look rfl ‹_› (fun K hK => ?_); go_simp; first | (refine hK _ ?_; clear hK K) | (refine ⟨_, fun _ => rfl, hK _ ?_⟩; clear hK K))
    refine wpPeek_go rfl rfl (fun K hK => ?_)
    go_wp2_with fail
    refine (Copy_c (.slice a20 x.t.length c20) (.slice ar_ x.r.length cr_) (.slice al_ x.l.length cl_) ⟨x.f, x.t.reverse, x.r, x.l⟩ W2 ⟨HO2.out, HR.out.r.ext (hX1.trans hd2), HR.out.l.ext (hX1.trans hd2)⟩ (by simp only [longR, List.length_reverse]; simp; omega)).mono ?_; rintro e W4 ⟨tv4, lv4, rv4, rfl, ho4, hy4⟩
    obtain ⟨a2, c2, rfl, _⟩ := ho4.t.ints.open_
    obtain ⟨a3, c3, rfl, _⟩ := ho4.l.ints.open_
    obtain ⟨a4, c4, rfl, _⟩ := ho4.r.ints.open_
    simp only [List.length_reverse] at ho4 ⊢
    have HO4 := Lib.hid ho4; clear ho4
    go_wp2_with fail
    refine ⟨KeepE.of (fun h => h.trans hy4) (fun _ => trivial), ?_⟩
    have hd4 := hd2.trans hy4
    clear hd2
    have hbx4 := hbx.ext hd4
    have HIN := Lib.hid (HO4.out.kept hbx4 (.int .i64 x.f) (.slice a2 x.t.length c2) (.slice a3 x.r.length c3) (.slice a4 x.l.length c4)).rul
    clear hbx z0 z1 z2 z3 f0 f1 f2 f3
    have z0 := hbx4.c0
    have z1 := hbx4.c1
    have z2 := hbx4.c2
    have z3 := hbx4.c3
    have f0 := hbx4.frozen 0
    have f1 := hbx4.frozen 1
    have f2 := hbx4.frozen 2
    have f3 := hbx4.frozen 3
    refine wpPeek_go rfl rfl (fun K hK => ?_)
    go_wp2_with fail
    refine ⟨⟨.inl (by simp), fun _ => trivial⟩, ?_⟩
    have hb2 := hbx4.set (.int .i64 x.f) (.slice a2 x.t.length c2) (.slice a3 x.r.length c3) (.slice a4 x.l.length c4)
    have hx2 := BoxR.set_ext (hE0.trans (hX1.trans hd4)) (show w.heap.size ≤ w.heap.size + 1 by omega) (.int .i64 x.f) (.slice a2 x.t.length c2) (.slice a3 x.r.length c3) (.slice a4 x.l.length c4)
    clear hbx4 z0 z1 z2 z3 f0 f1 f2 f3
    generalize ((((W4.setCell ⟨w.heap.size + 1, 0, none⟩ (.int .i64 x.f)).setCell ⟨w.heap.size + 1, 1, none⟩ (.slice a2 x.t.length c2)).setCell ⟨w.heap.size + 1, 2, none⟩ (.slice a3 x.r.length c3)).setCell ⟨w.heap.size + 1, 3, none⟩ (.slice a4 x.l.length c4)) = w2 at *
    have htr : (fun _ : World => True) w2 := trivial
    (refine wpPeek_peek rfl ‹_› (fun K hK => ?_); go_simp; first | (refine hK _ ?_; clear hK K) | (refine ⟨_, fun _ => rfl, hK _ ?_⟩; clear hK K))
    refine wpPeek_nil ?_
    clear hs
    have d0 := hb2.c0
    have d1 := hb2.c1
    have d2 := hb2.c2
    have d3 := hb2.c3
    clear hb2
    go_wp2_with fail
    refine bodyPost_ret (v := .tuple #[.agg #[.int .i64 x.f, .slice a2 x.t.length c2, .slice a3 x.r.length c3, .slice a4 x.l.length c4], .int .i64 0]) (by simp [results, Try.results45, go_sem, d0, d1, d2, d3]) rfl ?_
    exact ⟨_, _, _, rfl, HIN.out, hx2⟩
  · rw [if_neg h0]
    have hk : (validR x != 0) = true := by simp [h0]
    generalize validR x = k at *
    clear h0
    go_enter Try.func45, Try.ntmps45
    go_wp2_with fail
    rw [← HW.out]
    obtain ⟨wB, hwB⟩ : ∃ wB, wB = wA.alloc (.cells #[.int .i64 0, .slice none 0 0, .slice none 0 0, .slice none 0 0] 24) := ⟨_, rfl⟩
    have hEB : Ext wA wB := by rw [hwB]; exact Ext.alloc _ _
    rw [← hwB]
    refine (HV.out wB hEB).mono ?_; rintro e w1 ⟨rfl, hx1⟩
    have hX1 := hEB.trans hx1
    have hsA : wA.heap.size = w.heap.size + 1 := by rw [HW.out]; simp
    have hbx : BoxR w1 (w.heap.size + 1) (.int .i64 0) (.slice none 0 0) (.slice none 0 0) (.slice none 0 0) := (by rw [hwB]; exact BoxR.new wA _ _ _ _ hsA : BoxR wB _ _ _ _ _).ext hx1
    have z0 := hbx.c0
    have z1 := hbx.c1
    have z2 := hbx.c2
    have z3 := hbx.c3
    have f0 := hbx.frozen 0
    have f1 := hbx.frozen 1
    have f2 := hbx.frozen 2
    have f3 := hbx.frozen 3
    go_wp2_with fail
    have hb2 := hbx.set (.int .i64 0) (.slice none 0 0) (.slice none 0 0) (.slice none 0 0)
    have hx2 := BoxR.set_ext (hE0.trans hX1) (show w.heap.size ≤ w.heap.size + 1 by omega) (.int .i64 0) (.slice none 0 0) (.slice none 0 0) (.slice none 0 0)
    clear hbx z0 z1 z2 z3 f0 f1 f2 f3
    generalize ((((w1.setCell ⟨w.heap.size + 1, 0, none⟩ (.int .i64 0)).setCell ⟨w.heap.size + 1, 1, none⟩ (.slice none 0 0)).setCell ⟨w.heap.size + 1, 2, none⟩ (.slice none 0 0)).setCell ⟨w.heap.size + 1, 3, none⟩ (.slice none 0 0)) = w2 at *
    have d0 := hb2.c0
    have d1 := hb2.c1
    have d2 := hb2.c2
    have d3 := hb2.c3
    clear hb2
    refine bodyPost_ret (v := .tuple #[.agg #[.int .i64 0, .slice none 0 0, .slice none 0 0, .slice none 0 0], .int .i64 k]) (by simp [results, Try.results45, go_sem, d0, d1, d2, d3]) rfl ?_
    exact ⟨_, _, _, rfl, ⟨ints_nil_c _, ints_nil_c _, ints_nil_c _⟩, hx2⟩
end Go.Proofs.Ytojbamejhlaahaa

