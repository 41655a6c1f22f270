/- Walks: Validate. -/
import Derived.Test.YtdgncnhmgbmpjaaCellH
namespace Go.Proofs.Ytdgncnhmgbmpjaa
open Go.RowKit Go.Shelf
set_option linter.unusedVariables false

def sizesB (sizes : List Int) : Bool := decide (1 ≤ sizes.length) && decide (sizes.length ≤ 3) && allB sizes.length fun i => decide (2 ≤ sizes[i]?.getD 0) && decide (sizes[i]?.getD 0 ≤ 3)
theorem sizesB_iff (sizes : List Int) : sizesB sizes = true ↔ sizesOk sizes := by
  simp [sizesB, sizesOk, allB, and_assoc]
def entB (sizes : List Int) (e : Ent) : Bool := isListB sizes e.1 (-1) && (decide (0 ≤ e.2) && decide (e.2 ≤ 9))
def validI (sizes : List Int) (es : List Ent) : Int :=
  if sizesB sizes then (if es.length ≤ 10 then (if allB es.length (fun i => entB sizes (ent es i)) then 0 else 1) else 3) else 1

set_option maxHeartbeats 1000000 in
theorem validate_c (sv ev : Value) (sizes : List Int) (es : List Ent) (w : World) (hs : Ints w sv sizes) (he : Ents w ev es) :
    Calls Try.prog 34 #[.agg #[sv, ev]] w (RV (.int .i64 (validI sizes es)) w) := by
  have hA := Ext.alloc w (.cells #[sv, ev] 25)
  have hany : ((List.range sizes.length).any fun i => !(decide (2 ≤ sizes[i]?.getD 0) && decide (sizes[i]?.getD 0 ≤ 3))) = !(allB sizes.length fun i => decide (2 ≤ sizes[i]?.getD 0) && decide (sizes[i]?.getD 0 ≤ 3)) := by
    rw [allB, List.not_all_eq_any_not]
  have HCF := Lib.hid (containsFunc_c sv sizes 50 #[] (fun n => !(decide (2 ≤ n) && decide (n ≤ 3))) (w.alloc (.cells #[sv, ev] 25)) (enters_of Try.func50 (by kernel_rfl) rfl)
    (fun W i _ _ => (validate1_c _ W).mono fun e w' ⟨h1, h2⟩ => ⟨h1, by rw [← h2]; exact Ext.refl _⟩) (hs.ext hA))
  rw [hany] at HCF; clear hany
  have HS := Lib.hid hs; have HE := Lib.hid he
  obtain ⟨az, cz, rfl, hlz, hmz, _⟩ := hs.open_
  obtain ⟨ae, ce, rfl, hle, hme, He⟩ := he.open_
  clear hs he
  by_cases h1 : 1 ≤ sizes.length ∧ sizes.length ≤ 3
  · have hw : (decide ((1 : Int) ≤ (sizes.length : Int)) && decide ((sizes.length : Int) ≤ 3)) = true := by simp; omega
    cases hb : (allB sizes.length fun i => decide (2 ≤ sizes[i]?.getD 0) && decide (sizes[i]?.getD 0 ≤ 3))
    · rw [hb] at HCF
      have hv : validI sizes es = 1 := by rw [validI, if_neg (by simp [sizesB, hb])]
      rw [hv]
      have HW := Lib.hid hw
      clear hb hv hw
      go_enter Try.func34, Try.ntmps34
      go_wp2_with fail
      refine (within_c _ _ _ _).mono ?_; rw [HW.out]; rintro e w' ⟨rfl, rfl⟩
      go_wp2_with fail
      refine HCF.out.mono ?_; rintro e w' ⟨rfl, hB⟩
      go_wp2_with fail
      go_ret
      exact RV.int rfl (hA.trans hB)
    · rw [hb] at HCF
      have hsz : sizesB sizes = true := by simp [sizesB, hb, h1.1, h1.2]
      have HOK := Lib.hid ((sizesB_iff _).1 hsz)
      have HW := Lib.hid hw
      clear hb hw
      by_cases h10 : es.length ≤ 10
      · have hv : validI sizes es = if allB es.length (fun i => entB sizes (ent es i)) then 0 else 1 := by rw [validI, if_pos hsz, if_pos h10]
        have HV := Lib.hid hv
        clear hv hsz
        go_enter Try.func34, Try.ntmps34
        go_wp2_with fail
        refine (within_c _ _ _ _).mono ?_; rw [HW.out]; rintro e w' ⟨rfl, rfl⟩
        go_wp2_with fail
        refine HCF.out.mono ?_; rintro e w1 ⟨rfl, hB⟩
        have hb0 := hB.keep (alloc_cell w #[.slice az sizes.length cz, .slice ae es.length ce] 25 (i := 0) rfl)
        have hb1 := hB.keep (alloc_cell w #[.slice az sizes.length cz, .slice ae es.length ce] 25 (i := 1) rfl)
        have hwB := hA.trans hB
        clear hB hA
        go_wp2_with fail
        go_loopg [22] es.length (fun m i wr => ∃ k : Nat, k ≤ es.length ∧ es.length ≤ k + m ∧ i = .int .i64 k ∧ Ext w1 wr ∧ Hid (∀ j, j < k → entB sizes (ent es j) = true))
        case atStart => exact ⟨0, by omega, by omega, rfl, Ext.refl _, fun j hj => by omega⟩
        case round =>
          obtain ⟨k, hk, hk2, rfl, hB, hE⟩ := hrel
          have hb0 := hB.keep hb0
          have hb1 := hB.keep hb1
          by_cases hlt : k < es.length
          · obtain ⟨ba, oa, rfl, u, hc1, hi1, hf1⟩ := He.out k hlt
            have hX := hwB.trans hB
            replace hc1 := hX.keep hc1
            replace hf1 := hX.keep hf1
            have hA2 := Ext.alloc wr (.cells #[u, .int .i64 (ent es k).2] 42)
            have HL := Lib.hid (isList_c (.slice az sizes.length cz) (.slice (some ⟨ba, oa, none⟩) es.length ce) u sizes (ent es k).1 (-1) _ ((HS.out.ext hX).ext hA2) ((hi1.ext hX).ext hA2) HOK.out.2.2)
            obtain ⟨au, cu, rfl, hlu, hmu, _⟩ := hi1.open_
            have hent : entB sizes (ent es k) = (isListB sizes (ent es k).1 (-1) && (decide (0 ≤ (ent es k).2) && decide ((ent es k).2 ≤ 9))) := rfl
            clear hi1
            have hb0 := hA2.keep hb0
            have hb1 := hA2.keep hb1
            cases hl : isListB sizes (ent es k).1 (-1)
            · rw [hl] at HL
              have hbad : entB sizes (ent es k) = false := by rw [hent, hl]; rfl
              have HBAD := Lib.hid (allB_false (f := fun i => entB sizes (ent es i)) hlt hbad)
              clear hl hent hbad
              go_wp2_with fail
              refine HL.out.mono ?_; rintro e w2 ⟨rfl, hB2⟩
              go_wp2_with fail
              go_ret
              exact RV.int (by rw [HV.out, HBAD.out]; rfl) ((hX.trans hA2).trans hB2)
            · rw [hl] at HL
              rw [hl, Bool.true_and] at hent
              have hxe : wr.heap.size < (wr.alloc (.cells #[.slice au (ent es k).1.length cu, .int .i64 (ent es k).2] 42)).heap.size := by simp
              have hfm := alloc_cell wr #[.slice au (ent es k).1.length cu, .int .i64 (ent es k).2] 42 (i := 1) rfl
              cases hf : (decide (0 ≤ (ent es k).2) && decide ((ent es k).2 ≤ 9))
              · have HBAD := Lib.hid (allB_false (f := fun i => entB sizes (ent es i)) hlt (hent.trans hf))
                have HF := Lib.hid hf
                clear hl hent hf
                go_wp2_with fail
                refine HL.out.mono ?_; rintro e w2 ⟨rfl, hB2⟩
                have hfm := hB2.keep hfm
                go_wp2_with fail
                refine (within_c _ _ _ _).mono ?_; rw [HF.out]; rintro e w' ⟨rfl, rfl⟩
                go_wp2_with fail
                go_ret
                exact RV.int (by rw [HV.out, HBAD.out]; rfl) ((hX.trans hA2).trans hB2)
              · have HGOOD := Lib.hid (hent.trans hf)
                have HF := Lib.hid hf
                clear hl hent hf
                go_wp2_with fail
                refine HL.out.mono ?_; rintro e w2 ⟨rfl, hB2⟩
                have hfm := hB2.keep hfm
                go_wp2_with fail
                refine (within_c _ _ _ _).mono ?_; rw [HF.out]; rintro e w' ⟨rfl, rfl⟩
                go_wp2_with fail
                go_roundg (gk-1)
                case measure => omega
                case rel => exact ⟨k+1, by omega, by omega, by go_num, (hB.trans hA2).trans hB2, range_step hE.out HGOOD.out⟩
          · go_wp2_with fail
            go_ret
            exact RV.int (by rw [HV.out, allB_true (fun j hj => hE.out j (by omega))]; rfl) (hwB.trans hB)
      · have hv : validI sizes es = 3 := by rw [validI, if_pos hsz, if_neg h10]
        rw [hv]
        clear hv hsz
        go_enter Try.func34, Try.ntmps34
        go_wp2_with fail
        refine (within_c _ _ _ _).mono ?_; rw [HW.out]; rintro e w' ⟨rfl, rfl⟩
        go_wp2_with fail
        refine HCF.out.mono ?_; rintro e w1 ⟨rfl, hB⟩
        have hb1 := hB.keep (alloc_cell w #[.slice az sizes.length cz, .slice ae es.length ce] 25 (i := 1) rfl)
        go_wp2_with fail
        go_ret
        exact RV.int rfl (hA.trans hB)
  · have hw : (decide ((1 : Int) ≤ (sizes.length : Int)) && decide ((sizes.length : Int) ≤ 3)) = false := by simp; omega
    have hv : validI sizes es = 1 := by
      rw [validI, if_neg]; simp only [sizesB, Bool.and_eq_true, decide_eq_true_eq]; intro h; exact h1 h.1
    rw [hv]
    have HW := Lib.hid hw
    clear hw hv HCF h1
    go_enter Try.func34, Try.ntmps34
    go_wp2_with fail
    refine (within_c _ _ _ _).mono ?_; rw [HW.out]; rintro e w' ⟨rfl, rfl⟩
    go_wp2_with fail
    go_ret
    exact RV.int rfl hA
end Go.Proofs.Ytdgncnhmgbmpjaa
