/- Walks: the first error of a paradigm and a cell; Matches, Decides, Form and what the reference says of them. -/
import Derived.Test.YtdgncnhmgbmpjaaRefE
namespace Go.Proofs.Ytdgncnhmgbmpjaa
open Go.RowKit Go.Shelf
set_option linter.unusedVariables false

theorem rows_one {w : World} {v : Value} {c : List Int} {t : TypeId} {g : Nat} (hg : w.heap.size = g) (h : Ints w v c) : Rows (w.alloc (.cells #[v] t)) (.slice (some ⟨g, 0, none⟩) 1 1) [c] := by
  subst hg
  exact ⟨some ⟨w.heap.size, 0, none⟩, 1, rfl, by simp, by unfold maxLen; omega, fun i hi => ⟨w.heap.size, 0, rfl, v, by
    have : i = 0 := by simpa using hi
    subst this
    exact alloc_cell w #[v] t rfl, by
    have : i = 0 := by simpa using hi
    subst this
    exact h.ext (Ext.alloc _ _)⟩⟩

/-- the first error of a paradigm and cells -/
def checkI (sizes : List Int) (es : List Ent) (ls : List (List Int)) : Int :=
  if validI sizes es = 0 then (if allB ls.length (fun i => isListB sizes (ls[i]?.getD []) 0) then 0 else 1) else validI sizes es

set_option maxHeartbeats 400000 in
theorem check_c (sv ev lv : Value) (sizes : List Int) (es : List Ent) (ls : List (List Int)) (w : World) (hp : Par w sv ev sizes es) (hl : Rows w lv ls) :
    Calls Try.prog 20 #[.agg #[sv, ev], lv] w (RV (.int .i64 (checkI sizes es ls)) w) := by
  have hA := Ext.alloc w (.cells #[sv, ev] 25)
  have HV := Lib.hid (validate_c sv ev sizes es _ (hp.s.ext hA) (hp.e.ext hA))
  have HP := Lib.hid hp; clear hp
  obtain ⟨al, cl, rfl, hll, hml, HL⟩ := Rows.open_ hl
  clear hl
  by_cases h0 : validI sizes es = 0
  · have V := validI_zero h0
    have hc : checkI sizes es ls = if allB ls.length (fun i => isListB sizes (ls[i]?.getD []) 0) then 0 else 1 := by rw [checkI, if_pos h0]
    rw [h0] at HV
    have HC := Lib.hid hc
    generalize checkI sizes es ls = ck at *
    clear h0 hc
    go_enter Try.func20, Try.ntmps20
    go_wp2_with fail
    refine HV.out.mono ?_; rintro e w1 ⟨rfl, hB⟩
    have hb0 := hB.keep (alloc_cell w #[sv, ev] 25 (i := 0) rfl)
    have hb1 := hB.keep (alloc_cell w #[sv, ev] 25 (i := 1) rfl)
    have hX := hA.trans hB
    have HVV := Lib.hid V; clear V
    go_wp2_with fail
    go_loopg [15] ls.length (fun m i wr => ∃ k : Nat, k ≤ ls.length ∧ ls.length ≤ k + m ∧ i = .int .i64 k ∧ Ext w1 wr ∧ Hid (∀ j, j < k → isListB sizes (ls[j]?.getD []) 0 = true))
    case atStart => exact ⟨0, by omega, by omega, rfl, Ext.refl _, fun j hj => by omega⟩
    case round =>
      obtain ⟨k, hk, hk2, rfl, hB2, hE⟩ := hrel
      have hb0 := hB2.keep hb0
      have hb1 := hB2.keep hb1
      by_cases hlt : k < ls.length
      · obtain ⟨ba, oa, rfl, u, hc1, hi1⟩ := HL.out k hlt
        have hX2 := hX.trans hB2
        replace hc1 := hX2.keep hc1
        have HI := Lib.hid (isList_c sv ev u sizes (ls[k]?.getD []) 0 wr (HP.out.s.ext hX2) (hi1.ext hX2) HVV.out.ok.2.2)
        clear hi1
        cases hb : isListB sizes (ls[k]?.getD []) 0
        · rw [hb] at HI
          have HX := Lib.hid hb; clear hb
          go_wp2_with fail
          refine HI.out.mono ?_; rintro e w2 ⟨rfl, hB3⟩
          go_wp2_with fail
          go_ret
          exact RV.int (by rw [HC.out, allB_false hlt HX.out]; rfl) (hX2.trans hB3)
        · rw [hb] at HI
          have HX := Lib.hid hb; clear hb
          go_wp2_with fail
          refine HI.out.mono ?_; rintro e w2 ⟨rfl, hB3⟩
          go_wp2_with fail
          go_roundg (gk-1)
          case measure => omega
          case rel => exact ⟨k+1, by omega, by omega, by go_num, hB2.trans hB3, range_step hE.out HX.out⟩
      · go_wp2_with fail
        go_ret
        exact RV.int (by rw [HC.out, allB_true (fun j hj => hE.out j (by omega))]; rfl) (hX.trans hB2)
  · rw [show checkI sizes es ls = validI sizes es by rw [checkI, if_neg h0]]
    generalize validI sizes es = k at *
    have hk : (k != 0) = true := by simp [h0]
    have H0 := Lib.hid h0; clear h0
    go_enter Try.func20, Try.ntmps20
    go_wp2_with fail
    refine HV.out.mono ?_; rintro e w1 ⟨rfl, hB⟩
    go_wp2_with fail
    go_ret
    exact RV.int rfl (hA.trans hB)

/-- the first error of a paradigm and a cell -/
def cK (sizes : List Int) (es : List Ent) (c : List Int) : Int := if validI sizes es = 0 then (if isListB sizes c 0 then 0 else 1) else validI sizes es
theorem cK_one (sizes : List Int) (es : List Ent) (c : List Int) : checkI sizes es [c] = cK sizes es c := by
  simp [checkI, cK, allB]
theorem cK_zero {sizes : List Int} {es : List Ent} {c : List Int} (h : cK sizes es c = 0) : ValidP sizes es ∧ c.length = sizes.length ∧ isListB sizes c 0 = true := by
  unfold cK at h
  split at h
  · rename_i h1
    split at h
    · rename_i h2
      exact ⟨validI_zero h1, ((isListB_iff _ _ _).1 h2).1, h2⟩
    · omega
  · omega
theorem cK_of {sizes : List Int} {es : List Ent} {c : List Int} (V : ValidP sizes es) (h : isListB sizes c 0 = true) : cK sizes es c = 0 := by
  rw [cK, if_pos (validI_of V), if_pos h]

set_option maxHeartbeats 400000 in
theorem Matches_c (sv ev vc : Value) (sizes : List Int) (es : List Ent) (c : List Int) (w : World) (hp : Par w sv ev sizes es) (hc : Ints w vc c) :
    Calls Try.prog 15 #[.agg #[sv, ev], vc] w (R2 (isInts (if cK sizes es c = 0 then sel es.length (matchB es c) else [])) (cK sizes es c) w) := by
  have hA := Ext.alloc w (.cells #[sv, ev] 25)
  have HP := Lib.hid hp; have HC := Lib.hid hc
  obtain ⟨ac, cc, rfl, hcl, hcm, _⟩ := hc.open_
  clear hp hc
  by_cases h0 : cK sizes es c = 0
  · obtain ⟨V, hlc, _⟩ := cK_zero h0
    rw [h0]
    have HK := Lib.hid h0; have HVV := Lib.hid V; have HLC := Lib.hid hlc
    clear h0 V hlc
    rw [if_pos rfl]
    go_enter Try.func15, Try.ntmps15
    go_wp2_with fail
    refine (check_c sv ev _ sizes es [c] _ (HP.out.ext (hA.trans (Ext.alloc _ _))) (rows_one (by simp) (HC.out.ext hA))).mono ?_; rw [cK_one, HK.out]; rintro e w1 ⟨rfl, hB⟩
    have hb0 := hB.keep ((Ext.alloc _ _).keep (alloc_cell w #[sv, ev] 25 (i := 0) rfl))
    have hb1 := hB.keep ((Ext.alloc _ _).keep (alloc_cell w #[sv, ev] 25 (i := 1) rfl))
    have hX := hA.trans ((Ext.alloc _ _).trans hB)
    go_wp2_with fail
    refine (matches_c sv ev _ es c w1 (HP.out.e.ext hX) (HC.out.ext hX) (fun i hi => Nat.le_of_eq ((HVV.out.len i hi).trans HLC.out.symm)) (by have := HVV.out.n; omega)).mono ?_; rintro e w2 ⟨v, rfl, hr, hB2⟩
    have HR := Lib.hid hr; clear hr
    go_wp2_with fail
    go_ret2
    exact R2.mk HR.out (hX.trans hB2)
  · generalize hk : cK sizes es c = k at *
    have hkn : (k != 0) = true := by simp [h0]
    have HK := Lib.hid hk
    have H0 := Lib.hid h0; clear h0 hk
    go_enter Try.func15, Try.ntmps15
    go_wp2_with fail
    refine (check_c sv ev _ sizes es [c] _ (HP.out.ext (hA.trans (Ext.alloc _ _))) (rows_one (by simp) (HC.out.ext hA))).mono ?_; rw [cK_one, HK.out]; rintro e w1 ⟨rfl, hB⟩
    have hb0 := hB.keep ((Ext.alloc _ _).keep (alloc_cell w #[sv, ev] 25 (i := 0) rfl))
    have hb1 := hB.keep ((Ext.alloc _ _).keep (alloc_cell w #[sv, ev] 25 (i := 1) rfl))
    have hX := hA.trans ((Ext.alloc _ _).trans hB)
    go_wp2_with fail
    go_ret2
    first | rw [if_neg H0.out] | skip
    exact R2.mk (ints_nil_c _) hX

end Go.Proofs.Ytdgncnhmgbmpjaa
