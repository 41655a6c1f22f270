/- Whether a word has an image, both packages. -/
import Derived.Test.YtpbflkbelhlogaaMacI
namespace Go.Proofs.Ytpbflkbelhlogaa
open Go.RowKit Go.Shelf
set_option linter.unusedVariables false


set_option maxHeartbeats 1000000 in
theorem Accepts_c (av ev uv : Value) (m : Mac) (u : List Int) (w : World) (h : MacR w av ev m) (hu : Ints w uv u) : Calls Try.prog 25 #[.agg #[.int .i64 m.s, av, ev], uv] w (RV (.tuple #[.bool (acceptsB m u), .int .i64 (checkK m [u])]) w) := by
  obtain ⟨wA, hwA⟩ : ∃ wA, wA = w.alloc (.cells #[.int .i64 m.s, av, ev] 25) := ⟨_, rfl⟩
  have hE0 : Ext w wA := by rw [hwA]; exact Ext.alloc _ _
  have k0 : ∀ W, Ext wA W → W.cell? ⟨w.heap.size, 0, none⟩ = some (.int .i64 m.s) := by rw [hwA]; exact kept_alloc w _ _ rfl
  have k1 : ∀ W, Ext wA W → W.cell? ⟨w.heap.size, 1, none⟩ = some av := by rw [hwA]; exact kept_alloc w _ _ rfl
  have k2 : ∀ W, Ext wA W → W.cell? ⟨w.heap.size, 2, none⟩ = some ev := by rw [hwA]; exact kept_alloc w _ _ rfl
  have H0 : Ext wA wA := Ext.refl _
  have HR := Lib.hid (h.ext hE0)
  have HI := Lib.hid (hu.ext hE0)
  obtain ⟨aa, ca, rfl, hla, hma, HA⟩ := (h.ext hE0).a.open_
  obtain ⟨ae, ce, rfl, hle, hme, HE⟩ := (h.ext hE0).e.open_
  obtain ⟨au, cu, rfl, hlu, hmu, HU⟩ := (hu.ext hE0).open_
  have hxL := Ext.alloc wA (.cells #[.slice au u.length cu] 23)
  have HC := Lib.hid (by have := check_c _ _ _ m [u] _ (HR.out.ext hxL) (rows_one wA HI.out); rw [show wA.heap.size = w.heap.size + 1 by rw [hwA]; simp] at this; exact this)
  have HW := Lib.hid hwA; clear hwA h hu
  by_cases h0 : checkK m [u] = 0
  · obtain ⟨hm, hul, _⟩ := checkK_ok h0
    have hA : Hid (acceptsB m u = getB (canL m.s.toNat m u) 0) := by rw [acceptsB, if_pos h0]; exact rfl
    rw [h0] at HC ⊢
    clear h0
    have HIM := Lib.hid (fun W (hW : Ext wA W) => images_c _ _ _ m m.s.toNat u W (HR.out.ext hW) hm.in_ (HI.out.ext hW) (by omega))
    have HNE := Lib.hid (fun L => images_ne (L := L) hm.in_ hm.outIn (u := u))
    have HMY := Lib.hid (images_many (n := m.s.toNat) (m := m) (u := u))
    clear hm
    generalize imagesO m.s.toNat m u = o at *
    go_enter Try.func25, Try.ntmps25
    go_wp2_with fail
    rw [← HW.out]
    refine HC.out.mono ?_; rintro e w1 ⟨rfl, hx1⟩
    have hx1 := hxL.trans hx1
    go_wp2_with fail
    refine (HIM.out w1 hx1).mono ?_; rintro e w2 ⟨v, rfl, hv, hx2⟩
    cases o with
    | none =>
      have hb := HMY.out rfl
      go_wp2_with fail
      go_ret2
      exact ⟨by rw [hA.out, hb]; rfl, hE0.trans (hx1.trans hx2)⟩
    | some l =>
      have hb := HNE.out l rfl
      obtain ⟨al, cl, rfl, _⟩ := Rows.open_ hv
      have HB := Lib.hid hb; clear hb
      rw [HB.out] at hA
      clear hv HIM HNE HMY
      simp only [Option.getD_some]
      go_wp2_with fail
      go_ret2
      exact ⟨by rw [hA.out]; simp, hE0.trans (hx1.trans hx2)⟩
  · rw [show acceptsB m u = false by rw [acceptsB, if_neg h0]]
    have hk : (checkK m [u] != 0) = true := by simp [h0]
    generalize checkK m [u] = k at *
    clear h0
    go_enter Try.func25, Try.ntmps25
    go_wp2_with fail
    rw [← HW.out]
    refine HC.out.mono ?_; rintro e w1 ⟨rfl, hx1⟩
    have hx1 := hxL.trans hx1
    go_wp2_with fail
    go_ret2
    exact ⟨rfl, hE0.trans hx1⟩

set_option maxHeartbeats 1000000 in
theorem rAccepts_c (av ev uv : Value) (m : Mac) (u : List Int) (w : World) (h : MacR w av ev m) (hu : Ints w uv u) : Calls Try.prog 26 #[.agg #[.int .i64 m.s, av, ev], uv] w (RV (.tuple #[.bool (acceptsB m u), .int .i64 (checkK m [u])]) w) := by
  obtain ⟨wA, hwA⟩ : ∃ wA, wA = w.alloc (.cells #[.int .i64 m.s, av, ev] 25) := ⟨_, rfl⟩
  have hE0 : Ext w wA := by rw [hwA]; exact Ext.alloc _ _
  have k0 : ∀ W, Ext wA W → W.cell? ⟨w.heap.size, 0, none⟩ = some (.int .i64 m.s) := by rw [hwA]; exact kept_alloc w _ _ rfl
  have k1 : ∀ W, Ext wA W → W.cell? ⟨w.heap.size, 1, none⟩ = some av := by rw [hwA]; exact kept_alloc w _ _ rfl
  have k2 : ∀ W, Ext wA W → W.cell? ⟨w.heap.size, 2, none⟩ = some ev := by rw [hwA]; exact kept_alloc w _ _ rfl
  have H0 : Ext wA wA := Ext.refl _
  have HR := Lib.hid (h.ext hE0)
  have HI := Lib.hid (hu.ext hE0)
  obtain ⟨aa, ca, rfl, hla, hma, HA⟩ := (h.ext hE0).a.open_
  obtain ⟨ae, ce, rfl, hle, hme, HE⟩ := (h.ext hE0).e.open_
  obtain ⟨au, cu, rfl, hlu, hmu, HU⟩ := (hu.ext hE0).open_
  have hxL := Ext.refl wA
  have HC := Lib.hid (by have := worded_c _ _ _ _ m u [] wA HR.out HI.out (ints_nil_c wA); rw [checkK_nil] at this; exact this)
  have HW := Lib.hid hwA; clear hwA h hu
  by_cases h0 : checkK m [u] = 0
  · obtain ⟨hm, hul, _⟩ := checkK_ok h0
    have hA : Hid (acceptsB m u = getB (canL m.s.toNat m u) 0) := by rw [acceptsB, if_pos h0]; exact rfl
    rw [h0] at HC ⊢
    clear h0
    have HCN := Lib.hid (fun W (hW : Ext wA W) => rcan_c _ _ _ m m.s.toNat u W (HR.out.ext hW) hm.in_ (HI.out.ext hW) (by omega))
    have hn1 := hm.in_.n1
    clear hm
    go_enter Try.func26, Try.ntmps26
    go_wp2_with fail
    rw [← HW.out]
    refine HC.out.mono ?_; rintro e w1 ⟨rfl, hx1⟩
    have hx1 := hxL.trans hx1
    go_wp2_with fail
    refine (HCN.out w1 hx1).mono ?_; rintro e w2 ⟨v, rfl, hg, hx2⟩
    obtain ⟨A, rfl, hgr⟩ := hg
    obtain ⟨g, hz1, hz2⟩ := hgr 0 (by omega)
    have hz3 := hz2 0 (by omega)
    have hB0 : Hid (getB (canL m.s.toNat m u) 0 = (canL m.s.toNat m (u.drop 0))[0]?.getD false) := by rw [List.drop_zero]; exact rfl
    have hul2 : 0 < u.length + 1 := by omega
    generalize (canL m.s.toNat m (u.drop 0))[0]?.getD false = bz at *
    clear hgr hz2
    go_wp2_with fail
    go_ret2
    exact ⟨by rw [hA.out, hB0.out]; rfl, hE0.trans (hx1.trans hx2)⟩
  · rw [show acceptsB m u = false by rw [acceptsB, if_neg h0]]
    have hk : (checkK m [u] != 0) = true := by simp [h0]
    generalize checkK m [u] = k at *
    clear h0
    go_enter Try.func26, Try.ntmps26
    go_wp2_with fail
    rw [← HW.out]
    refine HC.out.mono ?_; rintro e w1 ⟨rfl, hx1⟩
    have hx1 := hxL.trans hx1
    go_wp2_with fail
    go_ret2
    exact ⟨rfl, hE0.trans hx1⟩
end Go.Proofs.Ytpbflkbelhlogaa
