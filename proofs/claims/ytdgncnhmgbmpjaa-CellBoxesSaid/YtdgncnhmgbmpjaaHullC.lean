/- The smallest spec of cells, with its errors: the program. -/
import Derived.Test.YtdgncnhmgbmpjaaHull
import Derived.Test.YtdgncnhmgbmpjaaMatch
namespace Go.Proofs.Ytdgncnhmgbmpjaa
open Go.RowKit Go.Shelf
set_option linter.unusedVariables false
def hullK (sizes : List Int) (es : List Ent) (ls : List (List Int)) : Int := if checkI sizes es ls = 0 then (if ls.length = 0 then 4 else 0) else checkI sizes es ls
def hullV (sizes : List Int) (es : List Ent) (ls : List (List Int)) : List Int := if hullK sizes es ls = 0 then hullL ls else []
theorem checkI_ok {sizes : List Int} {es : List Ent} {ls : List (List Int)} (h : checkI sizes es ls = 0) : ValidP sizes es ∧ ∀ i, i < ls.length → isListB sizes (ls[i]?.getD []) 0 = true := by
  unfold checkI at h
  split at h
  · rename_i h0
    refine ⟨validI_zero h0, fun i hi => ?_⟩
    cases hb : isListB sizes (ls[i]?.getD []) 0
    · rw [allB_false hi hb] at h; simp at h
    · rfl
  · rename_i h0; exact absurd h h0
theorem checkI_lens {sizes : List Int} {es : List Ent} {ls : List (List Int)} (h : checkI sizes es ls = 0) : ∀ i, i < ls.length → (ls[i]?.getD []).length = sizes.length := fun i hi => ((isListB_iff _ _ _).1 ((checkI_ok h).2 i hi)).1
set_option maxHeartbeats 1000000 in
set_option maxRecDepth 100000 in
theorem Hull_c (sv ev lv : Value) (sizes : List Int) (es : List Ent) (ls : List (List Int)) (w : World) (hp : Par w sv ev sizes es) (hl : Rows w lv ls) :
    Calls Try.prog 8 #[.agg #[sv, ev], lv] w (R2 (isInts (hullV sizes es ls)) (hullK sizes es ls) w) := by
  have hA := Ext.alloc w (.cells #[sv, ev] 25)
  have HC := Lib.hid (check_c sv ev lv sizes es ls _ (hp.ext hA) (Rows.ext hl hA))
  have HR := Lib.hid hl
  obtain ⟨al, cl, rfl, hll, hml, HL⟩ := Rows.open_ hl
  clear hl hp
  by_cases h0 : checkI sizes es ls = 0
  · have HLN := Lib.hid (checkI_lens h0)
    have V := (checkI_ok h0).1
    have hs3 := V.ok.2.1
    rw [h0] at HC
    by_cases hz : ls.length = 0
    · have hK : hullK sizes es ls = 4 := by rw [hullK, if_pos h0, if_pos hz]
      rw [show hullV sizes es ls = [] by rw [hullV, hK, if_neg (by decide)], hK]
      have hzd : ((ls.length : Int) == 0) = true := by rw [beq_iff_eq]; omega
      clear hK hz
      clear h0 V hs3
      go_enter Try.func8, Try.ntmps8
      go_wp2_with fail
      refine HC.out.mono ?_; rintro e w1 ⟨rfl, hx1⟩
      go_wp2_with fail
      go_ret2
      exact R2.mk (ints_nil_c _) (hA.trans hx1)
    · have hK : hullK sizes es ls = 0 := by rw [hullK, if_pos h0, if_neg hz]
      rw [show hullV sizes es ls = hullL ls by rw [hullV, if_pos hK], hK]
      have hzd : ((ls.length : Int) == 0) = false := by rw [beq_eq_false_iff_ne]; omega
      clear hK
      have HH := Lib.hid (fun W (hW : Ext w W) => hull_c _ ls sizes.length W (Rows.ext HR.out hW) (by omega) HLN.out (by omega))
      have HZ := Lib.hid hz
      clear h0 V hs3 hz
      go_enter Try.func8, Try.ntmps8
      go_wp2_with fail
      refine HC.out.mono ?_; rintro e w1 ⟨rfl, hx1⟩
      go_wp2_with fail
      refine (HH.out w1 (hA.trans hx1)).mono ?_; rintro e w2 ⟨v, rfl, ho, hx2⟩
      have HO := Lib.hid ho.ints
      obtain ⟨a2, c2, rfl, _⟩ := ho.ints.open_
      clear ho
      go_wp2_with fail
      go_ret2
      exact R2.mk HO.out (hA.trans (hx1.trans hx2))
  · have hK : hullK sizes es ls = checkI sizes es ls := by rw [hullK, if_neg h0]
    rw [show hullV sizes es ls = [] by rw [hullV, hK, if_neg h0], hK]
    clear hK
    have hk : (checkI sizes es ls != 0) = true := by simp [h0]
    generalize checkI sizes es ls = k at *
    have H0 := Lib.hid h0; clear h0
    go_enter Try.func8, Try.ntmps8
    go_wp2_with fail
    refine HC.out.mono ?_; rintro e w1 ⟨rfl, hx1⟩
    go_wp2_with fail
    go_ret2
    exact R2.mk (ints_nil_c _) (hA.trans hx1)
end Go.Proofs.Ytdgncnhmgbmpjaa
