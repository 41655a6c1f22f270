/- Two lexicons that read the same: Same of the reference says so. -/
import Derived.Test.YtgpggmcjggpmpaaTagSm
namespace Go.Proofs.Ytgpggmcjggpmpaa
open Go.RowKit Go.Shelf
set_option linter.unusedVariables false

set_option maxHeartbeats 2000000 in
set_option maxRecDepth 100000 in
theorem same_c (iv fv iv2 fv2 : Value) (l : Lex) (w : World) (h : LexR w iv fv l) (h2 : LexR w iv2 fv2 l) : Calls Try.prog 41 #[.agg #[iv, fv], .agg #[iv2, fv2]] w (RV (.bool true) w) := by
  obtain ⟨w0, hw0⟩ : ∃ w0, w0 = w.alloc (.cells #[iv, fv] 25) := ⟨_, rfl⟩
  have hE00 : Ext w w0 := by rw [hw0]; exact Ext.alloc _ _
  have hz0 : w0.heap.size = w.heap.size + 1 := by rw [hw0]; simp
  obtain ⟨wA, hwA⟩ : ∃ wA, wA = w0.alloc (.cells #[iv2, fv2] 25) := ⟨_, rfl⟩
  have hE01 : Ext w0 wA := by rw [hwA]; exact Ext.alloc _ _
  have hE0 : Ext w wA := hE00.trans hE01
  have k0 : ∀ W, Ext wA W → W.cell? ⟨w.heap.size, 0, none⟩ = some iv := by rw [hw0] at hE01; exact fun W hW => kept_alloc w _ _ rfl W (hE01.trans hW)
  have k1 : ∀ W, Ext wA W → W.cell? ⟨w.heap.size, 1, none⟩ = some fv := by rw [hw0] at hE01; exact fun W hW => kept_alloc w _ _ rfl W (hE01.trans hW)
  have m0 : ∀ W, Ext wA W → W.cell? ⟨w.heap.size + 1, 0, none⟩ = some iv2 := by rw [← hz0, hwA]; exact kept_alloc w0 _ _ rfl
  have m1 : ∀ W, Ext wA W → W.cell? ⟨w.heap.size + 1, 1, none⟩ = some fv2 := by rw [← hz0, hwA]; exact kept_alloc w0 _ _ rfl
  have H0 : Ext wA wA := Ext.refl _
  have HWW : Hid (wA = (w.alloc (.cells #[iv, fv] 25)).alloc (.cells #[iv2, fv2] 25)) := Lib.hid (by rw [hwA, hw0])
  have HR := Lib.hid (h.ext hE0)
  have HR2 := Lib.hid (h2.ext hE0)
  obtain ⟨ai, ci, rfl, hli, hmi, HI⟩ := (h.ext hE0).i.open_
  obtain ⟨ai2, ci2, rfl, hli2, hmi2, HI2⟩ := (h2.ext hE0).i.open_
  obtain ⟨af, cf, rfl, _, _, _⟩ := Rows.open_ (h.ext hE0).f
  obtain ⟨af2, cf2, rfl, _, _, _⟩ := Rows.open_ (h2.ext hE0).f
  have HSL := Lib.hid (fun W (hW : Ext wA W) => sameLists_c _ _ l.f l.f W (HR.out.f.ext hW) (HR2.out.f.ext hW))
  rw [decide_eq_true rfl] at HSL
  have hdn : ((l.i.length : Int) != (l.i.length : Int)) = false := by simp
  clear hw0 hwA hz0 hE00 hE01 w0 h h2
  go_enter Try.func41, Try.ntmps41
  go_wp2_with fail
  rw [← HWW.out]
  go_loopg [5] l.i.length (fun m i wr => ∃ k : Nat, k ≤ l.i.length ∧ l.i.length ≤ k + m ∧ i = .int .i64 k ∧ Ext wA wr)
  case atStart => exact ⟨0, by omega, by omega, rfl, H0⟩
  case round =>
    obtain ⟨k, hk, hk2, rfl, hX⟩ := hrel
    by_cases hlt : k < l.i.length
    · obtain ⟨bi, oi, rfl, u, hc0, hu, hc1, hc2⟩ := HI.out k hlt
      obtain ⟨bi2, oi2, rfl, v, hd0, hv, hd1, hd2⟩ := HI2.out k hlt
      have HSS := Lib.hid (fun s : Later wr => same_v u v _ _ s.w (hu.ext (hX.trans s.ext)) (hv.ext (hX.trans s.ext)))
      rw [decide_eq_true rfl] at HSS
      have hs : ∀ s : Later wr, Ext wA s.w := fun s => hX.trans s.ext
      have q0 := fun s : Later wr => (hX.trans s.ext).keep hc0
      have q1 := fun s : Later wr => (hX.trans s.ext).keep hc1
      have q2 := fun s : Later wr => (hX.trans s.ext).keep hc2
      have p0 := fun s : Later wr => (hX.trans s.ext).keep hd0
      have p1 := fun s : Later wr => (hX.trans s.ext).keep hd1
      have p2 := fun s : Later wr => (hX.trans s.ext).keep hd2
      have hkI : (k : Int) < (l.i.length : Int) := by omega
      generalize (itm l.i k).k = xk at *
      generalize (itm l.i k).c = xc at *
      have e1 : (xk != xk) = false := by simp
      have e2 : (xc != xc) = false := by simp
      clear hu hv hc0 hc1 hc2 hd0 hd1 hd2
      go_wp2_with fail
      refine wp_region_later (by kernel_rfl) (by kernel_rfl) ?_
      repeat (go_big_quiet_step ((first | (go_at_call 28; first | with_reducible exact Later.call (HSS.out _)))))
      refine wpQuiet_nil ?_
      intro w5 hw'
      obtain ⟨⟨_, hx5⟩, rfl⟩ := hw'
      clear hs q0 q1 q2 p0 p1 p2
      have hX5 := hX.trans hx5
      go_wp2_with fail
      go_roundg (gk-1)
      case measure => omega
      case rel => exact ⟨k+1, by omega, by omega, by go_num, hX5⟩
    · go_wp2_with fail
      refine (HSL.out wr hX).mono ?_; rintro e w5 ⟨rfl, hx5⟩
      go_wp2_with fail
      go_ret
      exact RV.bool rfl (hE0.trans (hX.trans hx5))
end Go.Proofs.Ytgpggmcjggpmpaa
