/- Comparing words; Images and Accepts of both packages. -/
import Derived.Test.YtpbflkbelhlogaaMacE
namespace Go.Proofs.Ytpbflkbelhlogaa
open Go.RowKit Go.Shelf
set_option linter.unusedVariables false

set_option maxHeartbeats 400000 in
theorem sameInts_c (va vb : Value) (a b : List Int) (w : World) (ha : Ints w va a) (hb : Ints w vb b) :
    Calls Try.prog 43 #[va, vb] w (RQ (sameIntsB a b) w) := by
  obtain ⟨aa, ca, rfl, hla, hma, Hca⟩ := ha.open_
  obtain ⟨ab, cb, rfl, hlb, hmb, Hcb⟩ := hb.open_
  clear ha hb
  by_cases hl : a.length = b.length
  · have H1 : ((a.length : Int) != (b.length : Int)) = false := by simp [hl]
    have hl1 : b.length ≤ a.length := by omega
    have hl2 : a.length ≤ b.length := by omega
    have HL := Lib.hid hl; clear hl
    go_enter Try.func43, Try.ntmps43
    go_wp2_with fail
    go_loopg [5] a.length (fun m i wr => ∃ k : Nat, k ≤ a.length ∧ a.length ≤ k + m ∧ i = .int .i64 k ∧ (∃ n, wr = w.drewN n) ∧ Hid (∀ j, j < k → (a[j]?.getD 0 == b[j]?.getD 0) = true))
    case atStart => exact ⟨0, by omega, by omega, rfl, ⟨0, rfl⟩, fun j hj => by omega⟩
    case round =>
      obtain ⟨k, hk, hk2, rfl, ⟨nd, hwr⟩, hE⟩ := hrel
      have hwx : Ext w wr := by rw [hwr]; exact Ext.drewN _ _
      have HW := Lib.hid hwr; clear hwr
      by_cases hlt : k < a.length
      · obtain ⟨ba, oa, rfl, hc1⟩ := Hca.out k hlt
        obtain ⟨bb, ob, rfl, hc2⟩ := Hcb.out k (by omega)
        replace hc1 := hwx.keep hc1
        replace hc2 := hwx.keep hc2
        generalize hx : a[k]?.getD 0 = x at *
        generalize hy : b[k]?.getD 0 = y at *
        have Hx := Lib.hid hx; have Hy := Lib.hid hy; clear hx hy
        by_cases hxy : x = y
        · subst hxy
          have hn : (x != x) = false := by simp
          go_wp2_with fail
          go_quiet (fail)
          go_wp2_with fail
          go_roundg (gk-1)
          case measure => omega
          case rel => exact ⟨k+1, by omega, by omega, by go_num, ⟨_, by rw [HW.out, World.drewN_drewN]⟩, range_step hE.out (by rw [Hx.out, Hy.out]; simp)⟩
        · have hn : (x != y) = true := by simp [hxy]
          have HX := Lib.hid hxy; clear hxy
          go_wp2_with fail
          go_quiet (fail)
          go_wp2_with fail
          go_ret
          exact RQ.mkW (n := nd) (by rw [sameIntsB, allB_false hlt (by rw [Hx.out, Hy.out]; simpa using HX.out)]; simp) HW.out _
      · go_wp2_with fail
        go_ret
        exact RQ.mkV (n := nd) (by rw [sameIntsB, allB_true (fun j hj => hE.out j (by omega))]; simp [HL.out]) HW.out
  · have H1 : ((a.length : Int) != (b.length : Int)) = true := by simp; omega
    have HL := Lib.hid hl; clear hl
    go_enter Try.func43, Try.ntmps43
    go_wp2_with fail
    go_ret
    exact RQ.mk0 (by have := HL.out; simp [sameIntsB, this])

set_option maxHeartbeats 400000 in
theorem sameWords_c (va vb : Value) (a b : List (List Int)) (w : World) (ha : Rows w va a) (hb : Rows w vb b) :
    Calls Try.prog 27 #[va, vb] w (RQ (rowsB a b) w) := by
  obtain ⟨aa, ca, rfl, hla, hma, Hca⟩ := ha.open_
  obtain ⟨ab, cb, rfl, hlb, hmb, Hcb⟩ := hb.open_
  clear ha hb
  by_cases hl : a.length = b.length
  · have H1 : ((a.length : Int) != (b.length : Int)) = false := by simp [hl]
    have hl1 : b.length ≤ a.length := by omega
    have hl2 : a.length ≤ b.length := by omega
    have HL := Lib.hid hl; clear hl
    go_enter Try.func27, Try.ntmps27
    go_wp2_with fail
    go_loopg [5] a.length (fun m i wr => ∃ k : Nat, k ≤ a.length ∧ a.length ≤ k + m ∧ i = .int .i64 k ∧ (∃ n, wr = w.drewN n) ∧ Hid (∀ j, j < k → sameIntsB (a[j]?.getD []) (b[j]?.getD []) = true))
    case atStart => exact ⟨0, by omega, by omega, rfl, ⟨0, rfl⟩, fun j hj => by omega⟩
    case round =>
      obtain ⟨k, hk, hk2, rfl, ⟨nd, hwr⟩, hE⟩ := hrel
      have hwx : Ext w wr := by rw [hwr]; exact Ext.drewN _ _
      have HW := Lib.hid hwr; clear hwr
      by_cases hlt : k < a.length
      · obtain ⟨ba, oa, rfl, u, hc1, hi1⟩ := Hca.out k hlt
        obtain ⟨bb, ob, rfl, v, hc2, hi2⟩ := Hcb.out k (by omega)
        replace hc1 := hwx.keep hc1
        replace hc2 := hwx.keep hc2
        have HS := Lib.hid (fun W (hx : Ext w W) => sameInts_c u v _ _ W (hi1.ext hx) (hi2.ext hx))
        clear hi1 hi2
        cases hs : sameIntsB (a[k]?.getD []) (b[k]?.getD [])
        · rw [hs] at HS
          have HX := Lib.hid hs; clear hs
          go_wp2_with fail
          go_quiet ((go_at_call 43; exact RQ.quiet (HS.out _ (hwx.trans (Ext.drewN _ _)))))
          go_wp2_with fail
          go_ret
          exact RQ.mkW (n := nd) (by rw [rowsB, allB_false hlt HX.out]; simp) HW.out _
        · rw [hs] at HS
          have HX := Lib.hid hs; clear hs
          go_wp2_with fail
          go_quiet ((go_at_call 43; exact RQ.quiet (HS.out _ (hwx.trans (Ext.drewN _ _)))))
          go_wp2_with fail
          go_roundg (gk-1)
          case measure => omega
          case rel => exact ⟨k+1, by omega, by omega, by go_num, ⟨_, by rw [HW.out, World.drewN_drewN]⟩, range_step hE.out HX.out⟩
      · go_wp2_with fail
        go_ret
        exact RQ.mkV (n := nd) (by rw [rowsB, allB_true (fun j hj => hE.out j (by omega))]; simp [HL.out]) HW.out
  · have H1 : ((a.length : Int) != (b.length : Int)) = true := by simp; omega
    have HL := Lib.hid hl; clear hl
    go_enter Try.func27, Try.ntmps27
    go_wp2_with fail
    go_ret
    exact RQ.mk0 (by have := HL.out; simp [rowsB, this])

/-! ## errors of machines and words -/
theorem checkK_two (m : Mac) (u v : List Int) : checkK m [u, v] = if validM m = 0 then (if wordK 8 u = 0 then wordK 8 v else wordK 8 u) else validM m := by
  simp only [checkK, wordsK]
  split
  · split
    · split <;> simp_all
    · rfl
  · rfl
theorem checkK_one (m : Mac) (u : List Int) : checkK m [u] = if validM m = 0 then wordK 8 u else validM m := by
  simp only [checkK, wordsK]
  split
  · split <;> simp_all
  · rfl
theorem wordK_nil : wordK 8 [] = 0 := by decide
theorem checkK_nil (m : Mac) (u : List Int) : checkK m [u, []] = checkK m [u] := by
  rw [checkK_two, checkK_one, wordK_nil]
  split
  · split <;> simp_all
  · rfl
theorem checkK_ok {m : Mac} {u : List Int} (h : checkK m [u] = 0) : MacOk m ∧ u.length ≤ 8 ∧ sndB u = true := by
  rw [checkK_one] at h
  split at h
  · rename_i h1
    unfold wordK at h
    split at h
    · omega
    · split at h
      · rename_i h2 h3
        exact ⟨validM_mac h1, by omega, h3⟩
      · omega
  · rename_i h1
    exact absurd h h1
set_option maxHeartbeats 400000 in
theorem check_c (av ev lv : Value) (m : Mac) (l : List (List Int)) (w : World) (h : MacR w av ev m) (hl : Rows w lv l) : Calls Try.prog 62 #[.agg #[.int .i64 m.s, av, ev], lv] w (RV (.int .i64 (checkK m l)) w) := by
  obtain ⟨wA, hwA⟩ : ∃ wA, wA = w.alloc (.cells #[.int .i64 m.s, av, ev] 25) := ⟨_, rfl⟩
  have hE0 : Ext w wA := by rw [hwA]; exact Ext.alloc _ _
  have k0 : ∀ W, Ext wA W → W.cell? ⟨w.heap.size, 0, none⟩ = some (.int .i64 m.s) := by rw [hwA]; exact kept_alloc w _ _ rfl
  have k1 : ∀ W, Ext wA W → W.cell? ⟨w.heap.size, 1, none⟩ = some av := by rw [hwA]; exact kept_alloc w _ _ rfl
  have k2 : ∀ W, Ext wA W → W.cell? ⟨w.heap.size, 2, none⟩ = some ev := by rw [hwA]; exact kept_alloc w _ _ rfl
  have H0 : Ext wA wA := Ext.refl _
  have HV := Lib.hid (Validate_c av ev m wA (h.ext hE0))
  have HWW := Lib.hid (fun W (hW : Ext wA W) => sounds_c lv l 8 W (hl.ext (hE0.trans hW)))
  have HW := Lib.hid hwA; clear hwA h hl
  by_cases h0 : validM m = 0
  · rw [show checkK m l = wordsK 8 l by rw [checkK, if_pos h0]]
    rw [h0] at HV
    clear h0
    go_enter Try.func62, Try.ntmps62
    go_wp2_with fail
    rw [← HW.out]
    refine HV.out.mono ?_; rintro e w1 ⟨rfl, hx1⟩
    go_wp2_with fail
    refine (HWW.out w1 hx1).mono ?_; rintro e w2 ⟨rfl, hx2⟩
    go_wp2_with fail
    go_ret
    exact RV.int rfl (hE0.trans (hx1.trans hx2))
  · rw [show checkK m l = validM m by rw [checkK, if_neg h0]]
    have hk : (validM m != 0) = true := by simp [h0]
    generalize validM m = k at *
    clear h0
    go_enter Try.func62, Try.ntmps62
    go_wp2_with fail
    rw [← HW.out]
    refine HV.out.mono ?_; rintro e w1 ⟨rfl, hx1⟩
    go_wp2_with fail
    go_ret
    exact RV.int rfl (hE0.trans hx1)
set_option maxHeartbeats 1000000 in
theorem worded_c (av ev uv vv : Value) (m : Mac) (u v : List Int) (w : World) (h : MacR w av ev m) (hu : Ints w uv u) (hv : Ints w vv v) : Calls Try.prog 64 #[.agg #[.int .i64 m.s, av, ev], uv, vv] w (RV (.int .i64 (checkK m [u, v])) w) := by
  obtain ⟨wA, hwA⟩ : ∃ wA, wA = w.alloc (.cells #[.int .i64 m.s, av, ev] 25) := ⟨_, rfl⟩
  have hE0 : Ext w wA := by rw [hwA]; exact Ext.alloc _ _
  have k0 : ∀ W, Ext wA W → W.cell? ⟨w.heap.size, 0, none⟩ = some (.int .i64 m.s) := by rw [hwA]; exact kept_alloc w _ _ rfl
  have k1 : ∀ W, Ext wA W → W.cell? ⟨w.heap.size, 1, none⟩ = some av := by rw [hwA]; exact kept_alloc w _ _ rfl
  have k2 : ∀ W, Ext wA W → W.cell? ⟨w.heap.size, 2, none⟩ = some ev := by rw [hwA]; exact kept_alloc w _ _ rfl
  have H0 : Ext wA wA := Ext.refl _
  have HV := Lib.hid (rValidate_c av ev m wA (h.ext hE0))
  have HU := Lib.hid (fun W (hW : Ext wA W) => word_c uv u 8 W (hu.ext (hE0.trans hW)))
  have HVV := Lib.hid (fun W (hW : Ext wA W) => word_c vv v 8 W (hv.ext (hE0.trans hW)))
  have HW := Lib.hid hwA; clear hwA h hu hv
  rw [checkK_two]
  by_cases h0 : validM m = 0
  · rw [if_pos h0]
    rw [h0] at HV
    clear h0
    by_cases h1 : wordK 8 u = 0
    · rw [if_pos h1]
      rw [h1] at HU
      clear h1
      go_enter Try.func64, Try.ntmps64
      go_wp2_with fail
      rw [← HW.out]
      refine HV.out.mono ?_; rintro e w1 ⟨rfl, hx1⟩
      go_wp2_with fail
      refine (HU.out w1 hx1).mono ?_; rintro e w2 ⟨rfl, hx2⟩
      go_wp2_with fail
      refine (HVV.out w2 (hx1.trans hx2)).mono ?_; rintro e w3 ⟨rfl, hx3⟩
      go_wp2_with fail
      go_ret
      exact RV.int rfl (hE0.trans (hx1.trans (hx2.trans hx3)))
    · rw [if_neg h1]
      have hk : (wordK 8 u != 0) = true := by simp [h1]
      generalize wordK 8 u = k at *
      clear h1
      go_enter Try.func64, Try.ntmps64
      go_wp2_with fail
      rw [← HW.out]
      refine HV.out.mono ?_; rintro e w1 ⟨rfl, hx1⟩
      go_wp2_with fail
      refine (HU.out w1 hx1).mono ?_; rintro e w2 ⟨rfl, hx2⟩
      go_wp2_with fail
      go_ret
      exact RV.int rfl (hE0.trans (hx1.trans hx2))
  · rw [if_neg h0]
    have hk : (validM m != 0) = true := by simp [h0]
    generalize validM m = k at *
    clear h0
    go_enter Try.func64, Try.ntmps64
    go_wp2_with fail
    rw [← HW.out]
    refine HV.out.mono ?_; rintro e w1 ⟨rfl, hx1⟩
    go_wp2_with fail
    go_ret
    exact RV.int rfl (hE0.trans hx1)
/-- a row of one list in a new block -/
theorem rows_one (w : World) {uv : Value} {u : List Int} (h : Ints w uv u) : Rows (w.alloc (.cells #[uv] 23)) (.slice (some ⟨w.heap.size, 0, none⟩) 1 1) [u] :=
  ⟨_, 1, rfl, by simp, by unfold maxLen; omega, fun i hi => ⟨w.heap.size, 0, rfl, uv, by
    obtain rfl : i = 0 := by simpa using hi
    exact alloc_cell w _ _ rfl, by
    obtain rfl : i = 0 := by simpa using hi
    exact h.ext (Ext.alloc _ _)⟩⟩

/-! ## Images -/
def imagesL (m : Mac) (u : List Int) : List (List Int) := if checkK m [u] = 0 then (imagesO m.s.toNat m u).getD [] else []
def imagesK (m : Mac) (u : List Int) : Int := if checkK m [u] = 0 then (if (imagesO m.s.toNat m u).isSome then 0 else 3) else checkK m [u]
def isRows (l : List (List Int)) (w : World) (v : Value) : Prop := Rows w v l
def acceptsB (m : Mac) (u : List Int) : Bool := if checkK m [u] = 0 then getB (canL m.s.toNat m u) 0 else false

set_option maxHeartbeats 1000000 in
theorem Images_c (av ev uv : Value) (m : Mac) (u : List Int) (w : World) (h : MacR w av ev m) (hu : Ints w uv u) : Calls Try.prog 23 #[.agg #[.int .i64 m.s, av, ev], uv] w (R2 (isRows (imagesL m u)) (imagesK m u) w) := by
  obtain ⟨wA, hwA⟩ : ∃ wA, wA = w.alloc (.cells #[.int .i64 m.s, av, ev] 25) := ⟨_, rfl⟩
  have hE0 : Ext w wA := by rw [hwA]; exact Ext.alloc _ _
  have k0 : ∀ W, Ext wA W → W.cell? ⟨w.heap.size, 0, none⟩ = some (.int .i64 m.s) := by rw [hwA]; exact kept_alloc w _ _ rfl
  have k1 : ∀ W, Ext wA W → W.cell? ⟨w.heap.size, 1, none⟩ = some av := by rw [hwA]; exact kept_alloc w _ _ rfl
  have k2 : ∀ W, Ext wA W → W.cell? ⟨w.heap.size, 2, none⟩ = some ev := by rw [hwA]; exact kept_alloc w _ _ rfl
  have H0 : Ext wA wA := Ext.refl _
  have HR := Lib.hid (h.ext hE0)
  have HI := Lib.hid (hu.ext hE0)
  obtain ⟨aa, ca, rfl, hla, hma, HA⟩ := (h.ext hE0).a.open_
  obtain ⟨ae, ce, rfl, hle, hme, HE⟩ := (h.ext hE0).e.open_
  obtain ⟨au, cu, rfl, hlu, hmu, HU⟩ := (hu.ext hE0).open_
  have hxL := Ext.alloc wA (.cells #[.slice au u.length cu] 23)
  have HC := Lib.hid (by have := check_c _ _ _ m [u] _ (HR.out.ext hxL) (rows_one wA HI.out); rw [show wA.heap.size = w.heap.size + 1 by rw [hwA]; simp] at this; exact this)
  have HW := Lib.hid hwA; clear hwA h hu
  by_cases h0 : checkK m [u] = 0
  · obtain ⟨hm, hul, _⟩ := checkK_ok h0
    have HIM := Lib.hid (fun W (hW : Ext wA W) => images_c _ _ _ m m.s.toNat u W (HR.out.ext hW) hm.in_ (HI.out.ext hW) (by omega))
    have hL : Hid (imagesL m u = (imagesO m.s.toNat m u).getD []) := by rw [imagesL, if_pos h0]; exact rfl
    have hK : Hid (imagesK m u = if (imagesO m.s.toNat m u).isSome then 0 else 3) := by rw [imagesK, if_pos h0]; exact rfl
    rw [h0] at HC
    clear h0 hm
    generalize imagesO m.s.toNat m u = o at *
    go_enter Try.func23, Try.ntmps23
    go_wp2_with fail
    rw [← HW.out]
    refine HC.out.mono ?_; rintro e w1 ⟨rfl, hx1⟩
    have hx1 := hxL.trans hx1
    go_wp2_with fail
    refine (HIM.out w1 hx1).mono ?_; rintro e w2 ⟨v, rfl, hv, hx2⟩
    cases o with
    | none =>
      go_wp2_with fail
      go_ret2
      exact ⟨_, by rw [hK.out]; rfl, by rw [hL.out]; exact Rows.nil _, hE0.trans (hx1.trans hx2)⟩
    | some l =>
      go_wp2_with fail
      go_ret2
      exact ⟨_, by rw [hK.out]; rfl, by rw [hL.out]; exact hv, hE0.trans (hx1.trans hx2)⟩
  · rw [show imagesL m u = [] by rw [imagesL, if_neg h0], show imagesK m u = checkK m [u] by rw [imagesK, if_neg h0]]
    have hk : (checkK m [u] != 0) = true := by simp [h0]
    generalize checkK m [u] = k at *
    clear h0
    go_enter Try.func23, Try.ntmps23
    go_wp2_with fail
    rw [← HW.out]
    refine HC.out.mono ?_; rintro e w1 ⟨rfl, hx1⟩
    have hx1 := hxL.trans hx1
    go_wp2_with fail
    go_ret2
    exact ⟨_, rfl, Rows.nil _, hE0.trans hx1⟩

set_option maxHeartbeats 1000000 in
theorem rImages_c (av ev uv : Value) (m : Mac) (u : List Int) (w : World) (h : MacR w av ev m) (hu : Ints w uv u) : Calls Try.prog 24 #[.agg #[.int .i64 m.s, av, ev], uv] w (R2 (isRows (imagesL m u)) (imagesK m u) w) := by
  obtain ⟨wA, hwA⟩ : ∃ wA, wA = w.alloc (.cells #[.int .i64 m.s, av, ev] 25) := ⟨_, rfl⟩
  have hE0 : Ext w wA := by rw [hwA]; exact Ext.alloc _ _
  have k0 : ∀ W, Ext wA W → W.cell? ⟨w.heap.size, 0, none⟩ = some (.int .i64 m.s) := by rw [hwA]; exact kept_alloc w _ _ rfl
  have k1 : ∀ W, Ext wA W → W.cell? ⟨w.heap.size, 1, none⟩ = some av := by rw [hwA]; exact kept_alloc w _ _ rfl
  have k2 : ∀ W, Ext wA W → W.cell? ⟨w.heap.size, 2, none⟩ = some ev := by rw [hwA]; exact kept_alloc w _ _ rfl
  have H0 : Ext wA wA := Ext.refl _
  have HR := Lib.hid (h.ext hE0)
  have HI := Lib.hid (hu.ext hE0)
  obtain ⟨aa, ca, rfl, hla, hma, HA⟩ := (h.ext hE0).a.open_
  obtain ⟨ae, ce, rfl, hle, hme, HE⟩ := (h.ext hE0).e.open_
  obtain ⟨au, cu, rfl, hlu, hmu, HU⟩ := (hu.ext hE0).open_
  have hxL := Ext.refl wA
  have HC := Lib.hid (by have := worded_c _ _ _ _ m u [] wA HR.out HI.out (ints_nil_c wA); rw [checkK_nil] at this; exact this)
  have HW := Lib.hid hwA; clear hwA h hu
  by_cases h0 : checkK m [u] = 0
  · obtain ⟨hm, hul, _⟩ := checkK_ok h0
    have HIM := Lib.hid (fun W (hW : Ext wA W) => rimages_c _ _ _ m m.s.toNat u W (HR.out.ext hW) hm.in_ (HI.out.ext hW) (by omega))
    have hL : Hid (imagesL m u = (imagesO m.s.toNat m u).getD []) := by rw [imagesL, if_pos h0]; exact rfl
    have hK : Hid (imagesK m u = if (imagesO m.s.toNat m u).isSome then 0 else 3) := by rw [imagesK, if_pos h0]; exact rfl
    rw [h0] at HC
    clear h0 hm
    generalize imagesO m.s.toNat m u = o at *
    go_enter Try.func24, Try.ntmps24
    go_wp2_with fail
    rw [← HW.out]
    refine HC.out.mono ?_; rintro e w1 ⟨rfl, hx1⟩
    have hx1 := hxL.trans hx1
    go_wp2_with fail
    refine (HIM.out w1 hx1).mono ?_; rintro e w2 ⟨v, rfl, hv, hx2⟩
    cases o with
    | none =>
      go_wp2_with fail
      go_ret2
      exact ⟨_, by rw [hK.out]; rfl, by rw [hL.out]; exact Rows.nil _, hE0.trans (hx1.trans hx2)⟩
    | some l =>
      go_wp2_with fail
      go_ret2
      exact ⟨_, by rw [hK.out]; rfl, by rw [hL.out]; exact hv, hE0.trans (hx1.trans hx2)⟩
  · rw [show imagesL m u = [] by rw [imagesL, if_neg h0], show imagesK m u = checkK m [u] by rw [imagesK, if_neg h0]]
    have hk : (checkK m [u] != 0) = true := by simp [h0]
    generalize checkK m [u] = k at *
    clear h0
    go_enter Try.func24, Try.ntmps24
    go_wp2_with fail
    rw [← HW.out]
    refine HC.out.mono ?_; rintro e w1 ⟨rfl, hx1⟩
    have hx1 := hxL.trans hx1
    go_wp2_with fail
    go_ret2
    exact ⟨_, rfl, Rows.nil _, hE0.trans hx1⟩
end Go.Proofs.Ytpbflkbelhlogaa
