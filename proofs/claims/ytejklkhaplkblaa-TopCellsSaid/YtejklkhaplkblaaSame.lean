/- Walks: whether two paradigms have the same forms. -/
import Derived.Test.YtejklkhaplkblaaRefE
namespace Go.Proofs.Ytejklkhaplkblaa
open Go.RowKit Go.Shelf
set_option linter.unusedVariables false

set_option maxHeartbeats 400000 in
theorem equalInts_c (va vb : Value) (a b : List Int) (w : World) (ha : Ints w va a) (hb : Ints w vb b) :
    Calls Try.prog 49 #[va, vb] w (RQ (sameIntsB a b) w) := by
  obtain ⟨aa, ca, rfl, hla, hma, Hca⟩ := ha.open_
  obtain ⟨ab, cb, rfl, hlb, hmb, Hcb⟩ := hb.open_
  clear ha hb
  by_cases hl : a.length = b.length
  · have H1 : ((a.length : Int) != (b.length : Int)) = false := by simp [hl]
    have hl1 : b.length ≤ a.length := by omega
    have hl2 : a.length ≤ b.length := by omega
    have HL := Lib.hid hl; clear hl
    go_enter Try.func49, Try.ntmps49
    go_wp2_with fail
    go_loopg [13] a.length (fun m i wr => ∃ k : Nat, k ≤ a.length ∧ a.length ≤ k + m ∧ i = .int .i64 k ∧ (∃ n, wr = w.drewN n) ∧ Hid (∀ j, j < k → (a[j]?.getD 0 == b[j]?.getD 0) = true))
    case atStart => exact ⟨0, by omega, by omega, rfl, ⟨0, rfl⟩, fun j hj => by omega⟩
    case round =>
      obtain ⟨k, hk, hk2, rfl, ⟨nd, hwr⟩, hE⟩ := hrel
      have hwx : Ext w wr := by rw [hwr]; exact Ext.drewN _ _
      have HW := Lib.hid hwr; clear hwr
      by_cases hlt : k < a.length
      · obtain ⟨ba, oa, rfl, hc1⟩ := Hca.out k hlt
        obtain ⟨bb, ob, rfl, hc2⟩ := Hcb.out k (by omega)
        replace hc1 := hwx.keep hc1
        replace hc2 := hwx.keep hc2
        generalize hx : a[k]?.getD 0 = x at *
        generalize hy : b[k]?.getD 0 = y at *
        have Hx := Lib.hid hx; have Hy := Lib.hid hy; clear hx hy
        by_cases hxy : x = y
        · subst hxy
          have hn : (x != x) = false := by simp
          go_wp2_with fail
          go_quiet (fail)
          go_wp2_with fail
          go_roundg (gk-1)
          case measure => omega
          case rel => exact ⟨k+1, by omega, by omega, by go_num, ⟨_, by rw [HW.out, World.drewN_drewN]⟩, range_step hE.out (by rw [Hx.out, Hy.out]; simp)⟩
        · have hn : (x != y) = true := by simp [hxy]
          have HX := Lib.hid hxy; clear hxy
          go_wp2_with fail
          go_quiet (fail)
          go_wp2_with fail
          go_ret
          exact RQ.mkW (n := nd) (by rw [sameIntsB, allB_false hlt (by rw [Hx.out, Hy.out]; simpa using HX.out)]; simp) HW.out _
      · go_wp2_with fail
        go_ret
        exact RQ.mkV (n := nd) (by rw [sameIntsB, allB_true (fun j hj => hE.out j (by omega))]; simp [HL.out]) HW.out
  · have H1 : ((a.length : Int) != (b.length : Int)) = true := by simp; omega
    have HL := Lib.hid hl; clear hl
    go_enter Try.func49, Try.ntmps49
    go_wp2_with fail
    go_ret
    exact RQ.mk0 (by have := HL.out; simp [sameIntsB, this])

def sameK (sizes : List Int) (es : List Ent) (ss : List Int) (fs : List Ent) : Int := if validI sizes es = 0 then (if validI ss fs = 0 then (if sameIntsB sizes ss then 0 else 9) else validI ss fs) else validI sizes es
def sameV (sizes : List Int) (es : List Ent) (ss : List Int) (fs : List Ent) : Bool := (decide (validI sizes es = 0) && decide (validI ss fs = 0) && sameIntsB sizes ss) && sameIntsB (fillL sizes es) (fillL ss fs)

set_option maxHeartbeats 1000000 in
set_option maxRecDepth 100000 in
theorem Same_c (sv ev tv fv : Value) (sizes : List Int) (es : List Ent) (ss : List Int) (fs : List Ent) (w : World) (hp : Par w sv ev sizes es) (hq : Par w tv fv ss fs) :
    Calls Try.prog 20 #[.agg #[sv, ev], .agg #[tv, fv]] w (R2 (isBool (sameV sizes es ss fs)) (sameK sizes es ss fs) w) := by
  obtain ⟨wA, hwA⟩ : ∃ wA, wA = w.alloc (.cells #[sv, ev] 25) := ⟨_, rfl⟩
  obtain ⟨wB, hwB⟩ : ∃ wB, wB = wA.alloc (.cells #[tv, fv] 25) := ⟨_, rfl⟩
  have xA : Ext w wA := by rw [hwA]; exact Ext.alloc _ _
  have xB : Ext wA wB := by rw [hwB]; exact Ext.alloc _ _
  have zA : wA.heap.size = w.heap.size + 1 := by rw [hwA]; simp
  have hX := xA.trans xB
  have a0 : wB.cell? ⟨w.heap.size, 0, none⟩ = some sv := xB.keep (by rw [hwA]; exact alloc_cell _ _ _ rfl)
  have a1 : wB.cell? ⟨w.heap.size, 1, none⟩ = some ev := xB.keep (by rw [hwA]; exact alloc_cell _ _ _ rfl)
  have b0 : wB.cell? ⟨w.heap.size + 1, 0, none⟩ = some tv := by rw [hwB, ← zA]; exact alloc_cell _ _ _ rfl
  have b1 : wB.cell? ⟨w.heap.size + 1, 1, none⟩ = some fv := by rw [hwB, ← zA]; exact alloc_cell _ _ _ rfl
  have HVp := Lib.hid (fun W (h : Ext w W) => validate_c sv ev sizes es W (hp.s.ext h) (hp.e.ext h))
  have HVq := Lib.hid (fun W (h : Ext w W) => validate_c tv fv ss fs W (hq.s.ext h) (hq.e.ext h))
  have HW := Lib.hid (And.intro hwA hwB); clear hwA hwB zA
  have HP := Lib.hid hp; have HQ := Lib.hid hq; clear hp hq
  by_cases h0 : validI sizes es = 0
  · have V := Lib.hid (validI_zero h0)
    have H0 := Lib.hid h0
    rw [h0] at HVp
    clear h0
    by_cases h1 : validI ss fs = 0
    · have V1 := Lib.hid (validI_zero h1)
      have H1 := Lib.hid h1
      rw [h1] at HVq
      clear h1
      have HEQ := Lib.hid (fun W (h : Ext w W) => equalInts_c sv tv sizes ss W (HP.out.s.ext h) (HQ.out.s.ext h))
      cases hs : sameIntsB sizes ss
      · rw [hs] at HEQ
        have hk : sameK sizes es ss fs = 9 := by simp [sameK, H0.out, H1.out, hs]
        have hv : sameV sizes es ss fs = false := by simp [sameV, hs]
        rw [hk, hv]
        clear hk hv hs
        go_enter Try.func20, Try.ntmps20
        go_wp2_with fail
        rw [← HW.out.1, ← HW.out.2]
        refine (HVp.out _ hX).mono ?_; rintro e w1 ⟨rfl, hx1⟩
        have a0 := hx1.keep a0
        have b0 := hx1.keep b0
        have b1 := hx1.keep b1
        replace hx1 := hX.trans hx1
        go_wp2_with fail
        refine (HVq.out _ hx1).mono ?_; rintro e w2 ⟨rfl, hx2⟩
        have a0 := hx2.keep a0
        have b0 := hx2.keep b0
        replace hx2 := hx1.trans hx2
        go_wp2_with fail
        refine (HEQ.out _ hx2).mono ?_; rintro e w3 ⟨rfl, n3, hw3⟩
        have hx3 : Ext w w3 := hx2.trans (by rw [hw3]; exact Ext.drewN _ _)
        clear hw3
        go_wp2_with fail
        go_ret2
        exact R2.mk rfl hx3
      · rw [hs] at HEQ
        have hk : sameK sizes es ss fs = 0 := by simp [sameK, H0.out, H1.out, hs]
        have hv : sameV sizes es ss fs = sameIntsB (fillL sizes es) (fillL ss fs) := by simp [sameV, H0.out, H1.out, hs]
        rw [hk, hv]
        clear hk hv hs
        go_enter Try.func20, Try.ntmps20
        go_wp2_with fail
        rw [← HW.out.1, ← HW.out.2]
        refine (HVp.out _ hX).mono ?_; rintro e w1 ⟨rfl, hx1⟩
        have a0 := hx1.keep a0
        have a1 := hx1.keep a1
        have b0 := hx1.keep b0
        have b1 := hx1.keep b1
        replace hx1 := hX.trans hx1
        go_wp2_with fail
        refine (HVq.out _ hx1).mono ?_; rintro e w2 ⟨rfl, hx2⟩
        have a0 := hx2.keep a0
        have a1 := hx2.keep a1
        have b0 := hx2.keep b0
        have b1 := hx2.keep b1
        replace hx2 := hx1.trans hx2
        go_wp2_with fail
        refine (HEQ.out _ hx2).mono ?_; rintro e w3 ⟨rfl, n3, hw3⟩
        have hx23 : Ext w2 w3 := by rw [hw3]; exact Ext.drewN _ _
        have a0 := hx23.keep a0
        have a1 := hx23.keep a1
        have b0 := hx23.keep b0
        have b1 := hx23.keep b1
        have hx3 := hx2.trans hx23
        clear hw3
        go_wp2_with fail
        refine wp_region_ord 5 [0, 2] [1, 3, 4] (by kernel_rfl) (by kernel_rfl) (by intro c a d v w h; cases d <;> exact h) ?_
        have hd : Ext w3 { w3 with drawn := w3.drawn + 1 } := drawn_ext w3
        generalize { w3 with drawn := w3.drawn + 1 } = W1 at *
        have q0 := fun s : Later W1 => (hd.trans s.ext).keep a0
        have q1 := fun s : Later W1 => (hd.trans s.ext).keep a1
        have q2 := fun s : Later W1 => (hd.trans s.ext).keep b0
        have q3 := fun s : Later W1 => (hd.trans s.ext).keep b1
        simp only [List.filterMap_cons, List.filterMap_nil, List.getElem?_toArray, List.getElem?_cons_zero, List.getElem?_cons_succ]
        repeat (refine wpPure_step (fun K hK => ?_); go_simp; first | (refine hK _ ?_; clear hK K) | (refine ⟨_, fun _ => rfl, hK _ ?_⟩; clear hK K))
        refine wpPure_nil ?_
        clear q0 q1 q2 q3
        replace hd := hx3.trans hd
        refine wpMem_step rfl rfl (fun K hK => ?_)
        go_wp2_with fail
        refine (fillP_c sv ev sizes es W1 (HP.out.ext hd) V.out).mono ?_
        rintro e W2 ⟨v1, rfl, hi1, hy2⟩
        have HI1 := Lib.hid hi1; clear hi1
        go_wp2_with fail
        refine ⟨hy2, ?_⟩
        refine wpMem_step rfl rfl (fun K hK => ?_)
        go_wp2_with fail
        refine (fillP_c tv fv ss fs W2 (HQ.out.ext (hd.trans hy2)) V1.out).mono ?_
        rintro e W3 ⟨v2, rfl, hi2, hy3⟩
        have HI2 := Lib.hid hi2; clear hi2
        go_wp2_with fail
        refine ⟨hy3, ?_⟩
        refine wpMem_step rfl rfl (fun K hK => ?_)
        go_wp2_with fail
        refine (equalInts_c v1 v2 _ _ W3 (HI1.out.ext hy3) HI2.out).mono ?_
        rintro e W4 ⟨rfl, n4, hw4⟩
        have hy4 : Ext W3 W4 := by rw [hw4]; exact Ext.drewN _ _
        clear hw4
        go_wp2_with fail
        refine ⟨hy4, ?_⟩
        refine wpMem_nil rfl ?_
        go_wp2_with fail
        go_ret2
        exact R2.mk rfl (((hd.trans hy2).trans hy3).trans hy4)
    · have hk : sameK sizes es ss fs = validI ss fs := by simp [sameK, H0.out, h1]
      have hv : sameV sizes es ss fs = false := by simp [sameV, h1]
      rw [hk, hv]
      generalize validI ss fs = k at *
      have hkk : (k != 0) = true := by simp [h1]
      clear hk hv h1
      go_enter Try.func20, Try.ntmps20
      go_wp2_with fail
      rw [← HW.out.1, ← HW.out.2]
      refine (HVp.out _ hX).mono ?_; rintro e w1 ⟨rfl, hx1⟩
      have b0 := hx1.keep b0
      have b1 := hx1.keep b1
      replace hx1 := hX.trans hx1
      go_wp2_with fail
      refine (HVq.out _ hx1).mono ?_; rintro e w2 ⟨rfl, hx2⟩
      go_wp2_with fail
      go_ret2
      exact R2.mk rfl (hx1.trans hx2)
  · have hk : sameK sizes es ss fs = validI sizes es := by simp [sameK, h0]
    have hv : sameV sizes es ss fs = false := by simp [sameV, h0]
    rw [hk, hv]
    generalize validI sizes es = k at *
    have hkk : (k != 0) = true := by simp [h0]
    clear hk hv h0
    go_enter Try.func20, Try.ntmps20
    go_wp2_with fail
    rw [← HW.out.1, ← HW.out.2]
    refine (HVp.out _ hX).mono ?_; rintro e w1 ⟨rfl, hx1⟩
    go_wp2_with fail
    go_ret2
    exact R2.mk rfl (hX.trans hx1)

end Go.Proofs.Ytejklkhaplkblaa
