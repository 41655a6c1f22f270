/- Walks: Needless, both packages. -/
import Derived.Test.YtejklkhaplkblaaWithout
import Derived.Test.YtejklkhaplkblaaDec
namespace Go.Proofs.Ytejklkhaplkblaa
open Go.RowKit Go.Shelf
set_option linter.unusedVariables false

/-- entry k changes no form -/
def needB (sizes : List Int) (es : List Ent) (k : Nat) : Bool := sameIntsB (fillL sizes (es.eraseIdx k)) (fillL sizes es)
def needL (sizes : List Int) (es : List Ent) : List Int := sel es.length (needB sizes es)
theorem erase_valid {sizes : List Int} {es : List Ent} {k : Nat} (V : ValidP sizes es) (hk : k < es.length) : ValidP sizes (es.eraseIdx k) :=
  ⟨V.ok, by rw [List.length_eraseIdx_of_lt hk]; have := V.n; omega, fun i hi => by
    rw [List.length_eraseIdx_of_lt hk] at hi
    rw [ent_erase]; split
    · exact V.ent i (by omega)
    · exact V.ent (i + 1) (by omega)⟩

set_option maxHeartbeats 1000000 in
set_option maxRecDepth 100000 in
theorem Needless_c (sv ev : Value) (sizes : List Int) (es : List Ent) (w : World) (hp : Par w sv ev sizes es) :
    Calls Try.prog 21 #[.agg #[sv, ev]] w (R2 (if validI sizes es = 0 then isInts (needL sizes es) else isInts []) (validI sizes es) w) := by
  have hA := Ext.alloc w (.cells #[sv, ev] 25)
  have HV := Lib.hid (validate_c sv ev sizes es _ (hp.s.ext hA) (hp.e.ext hA))
  have HP := Lib.hid hp; clear hp
  by_cases h0 : validI sizes es = 0
  · have V := validI_zero h0
    rw [h0] at HV ⊢
    rw [if_pos rfl]
    clear h0
    go_enter Try.func21, Try.ntmps21
    go_wp2_with fail
    refine HV.out.mono ?_; rintro e w1 ⟨rfl, hB⟩
    have hb0 := hB.keep (alloc_cell w #[sv, ev] 25 (i := 0) rfl)
    have hb1 := hB.keep (alloc_cell w #[sv, ev] 25 (i := 1) rfl)
    have hX := hA.trans hB
    go_wp2_with fail
    obtain ⟨ae, ce, rfl, _⟩ := HP.out.e.open_
    refine (fillP_c sv _ sizes es w1 (HP.out.ext hX) V).mono ?_; rintro e w2 ⟨v5, rfl, hr5, hx2⟩
    have HR5 := Lib.hid hr5; clear hr5
    have hb0 := hx2.keep hb0
    have hb1 := hx2.keep hb1
    have hX2 := hX.trans hx2
    have hn10 := V.n
    have HVE := Lib.hid (fun k (h : k < es.length) => erase_valid V h)
    have HVV := Lib.hid V; clear V
    go_wp2_with fail
    go_loopg [6, 18] es.length (fun m v i wr => ∃ k : Nat, k ≤ es.length ∧ es.length ≤ k + m ∧ i = .int .i64 k ∧ Ext w2 wr ∧ OInts 3 wr w2.heap.size v (sel k (needB sizes es)))
    case atStart => exact ⟨0, by omega, by omega, rfl, Ext.refl _, OInts.nil _ _ _⟩
    case round =>
      obtain ⟨k, hk, hk2, rfl, hB2, hown⟩ := hrel
      by_cases hlt : k < es.length
      · have hb0w := hB2.keep hb0
        have hb1w := hB2.keep hb1
        have hXr := hX2.trans hB2
        have hsl := sel_le k (needB sizes es)
        have HY := Lib.hid (sel_yes (k := k) (f := needB sizes es))
        have HN := Lib.hid (sel_no (k := k) (f := needB sizes es))
        have HOWN := Lib.hid hown; clear hown
        have HWI := Lib.hid (without_c sv _ sizes es k wr (HP.out.ext hXr) hlt (by omega) (by have := HVV.out.ok.2.1; omega) (fun i hi => by rw [HVV.out.len i hi]; have := HVV.out.ok.2.1; omega))
        have HNB := Lib.hid (show needB sizes es k = sameIntsB (fillL sizes (es.eraseIdx k)) (fillL sizes es) from rfl)
        generalize sel k (needB sizes es) = L at *
        go_wp2_with fail
        refine HWI.out.mono ?_; rintro e w3 ⟨s3, e3, rfl, hov, hoe, hx3⟩
        go_wp2_with fail
        refine (fillP_c s3 e3 sizes (es.eraseIdx k) w3 ⟨hov.ints, hoe.ents⟩ (HVE.out k hlt)).mono ?_; rintro e w4 ⟨v4, rfl, hr4, hx4⟩
        have HSI := Lib.hid (equalInts_c v4 v5 _ _ w4 hr4 (HR5.out.ext (hB2.trans (hx3.trans hx4))))
        rw [← HNB.out] at HSI
        clear hr4 hov hoe
        have hx34 := hx3.trans hx4
        clear hb0w hb1w
        cases hnb : needB sizes es k
        · rw [hnb] at HSI
          have HN1 := Lib.hid (HN.out hnb)
          clear hnb
          go_wp2_with fail
          refine HSI.out.mono ?_; rintro e w5 ⟨rfl, n5, hw5⟩
          have hx5 : Ext wr w5 := hx34.trans (by rw [hw5]; exact Ext.drewN _ _)
          clear hw5
          go_wp2_with fail
          go_roundg (gk-1)
          case measure => omega
          case rel => exact ⟨k+1, by omega, by omega, by go_num, hB2.trans hx5, by rw [HN1.out]; exact HOWN.out.ext hx5⟩
        · rw [hnb] at HSI
          have HY1 := Lib.hid (HY.out hnb)
          clear hnb
          go_wp2_with fail
          refine HSI.out.mono ?_; rintro e w5 ⟨rfl, n5, hw5⟩
          have hx5 : Ext wr w5 := hx34.trans (by rw [hw5]; exact Ext.drewN _ _)
          clear hw5
          have hB5 := hB2.trans hx5
          have hs5 := hB5.size
          go_wp2_with (at_builtin; refine wpList_appendInt elInts rfl _ _ rfl rfl rfl (HOWN.out.ext hx5) rfl (by omega) (by omega) ?_; intro v' w' hown2 hb2)
          go_roundg (gk-1)
          case measure => omega
          case rel => exact ⟨k+1, by omega, by omega, by go_num, hB5.upto hb2 (Nat.le_refl _), by rw [HY1.out]; exact hown2⟩
      · obtain rfl : k = es.length := by omega
        have HIN := Lib.hid hown.ints; clear hown
        go_wp2_with fail
        go_ret2
        exact R2.mk HIN.out (hX2.trans hB2)

  · rw [if_neg h0]
    generalize validI sizes es = k at *
    have hk : (k != 0) = true := by simp [h0]
    have H0 := Lib.hid h0; clear h0
    go_enter Try.func21, Try.ntmps21
    go_wp2_with fail
    refine HV.out.mono ?_; rintro e w1 ⟨rfl, hB⟩
    go_wp2_with fail
    go_ret2
    exact R2.mk (ints_nil_c _) (hA.trans hB)

end Go.Proofs.Ytejklkhaplkblaa

