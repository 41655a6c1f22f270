/- A rule at all places, along a word; both packages. -/
import Derived.Test.YthmdecgkbjdabaaRulG
namespace Go.Proofs.Ythmdecgkbjdabaa
open Go.RowKit Go.Shelf
set_option linter.unusedVariables false

/-- a list in memory of the call's own and an error code -/
def RO2 (l : List Int) (k : Int) (w : World) (e : Ending) (w' : World) : Prop := ∃ v, e = .returned (.tuple #[v, .int .i64 k]) ∧ OInts 3 w' w.heap.size v l ∧ Ext w w'
structure GoodR (x : Rul) : Prop where
  nb : nbB x.f = true
  len : x.t.length ≤ 2
  snd : sndB x.t = true
  l : setB x.l = true
  r : setB x.r = true
theorem validR_zero {x : Rul} (h : validR x = 0) : GoodR x := by
  unfold validR at h
  split at h
  · rename_i h1
    split at h
    · omega
    · rename_i h2
      split at h
      · rename_i h3
        simp only [Bool.and_eq_true] at h3
        exact ⟨h1, by omega, h3.1.1, h3.1.2, h3.2⟩
      · omega
  · omega
theorem validW_zero {w : List Int} (h : validW w = 0) : w.length ≤ 8 ∧ sndB w = true := by
  unfold validW at h
  split at h
  · omega
  · split at h
    · rename_i h1 h2; exact ⟨by omega, h2⟩
    · omega
theorem wordK_zero {x : Rul} {w : List Int} (h : wordK x w = 0) : GoodR x ∧ w.length ≤ 8 ∧ sndB w = true := by
  unfold wordK at h
  split at h
  · rename_i h1; exact ⟨validR_zero h1, validW_zero h⟩
  · omega

theorem short_c (v : Value) (l : List Int) (w : World) (h : Ints w v l) : Calls Try.prog 28 #[v] w (RV (.tuple #[if 8 < l.length then .slice none 0 0 else v, .int .i64 (if 8 < l.length then 3 else 0)]) w) := by
  obtain ⟨a, c, rfl, _⟩ := h.open_
  clear h
  by_cases h8 : 8 < l.length
  · rw [if_pos h8, if_pos h8]
    go_enter Try.func28, Try.ntmps28
    go_wp2_with fail
    go_ret2
    exact RV.mk rfl (Ext.refl _)
  · rw [if_neg h8, if_neg h8]
    go_enter Try.func28, Try.ntmps28
    go_wp2_with fail
    go_ret2
    exact RV.mk rfl (Ext.refl _)

def shortK (l : List Int) : Int := if 8 < l.length then 3 else 0
def shortL (l : List Int) : List Int := if 8 < l.length then [] else l
def atAllK (x : Rul) (l : List Int) : Int := if wordK x l = 0 then shortK (allL x l) else wordK x l
def atAllL (x : Rul) (l : List Int) : List Int := if wordK x l = 0 then shortL (allL x l) else []
theorem short_own {w : World} {B : Nat} {v : Value} {l : List Int} (h : OInts 3 w B v l) : OInts 3 w B (if 8 < l.length then .slice none 0 0 else v) (shortL l) := by
  unfold shortL; split
  · exact OInts.nil _ _ _
  · exact h

set_option maxHeartbeats 1000000 in
set_option maxRecDepth 100000 in
theorem AtAll_c (tv lv rv wv : Value) (x : Rul) (l : List Int) (w : World) (h : RulR w tv lv rv x) (hw : Ints w wv l) :
    Calls Try.prog 14 #[.agg #[.int .i64 x.f, tv, lv, rv], wv] w (RO2 (atAllL x l) (atAllK x l) w) := by
  obtain ⟨wA, hwA⟩ : ∃ wA, wA = w.alloc (.cells #[.int .i64 x.f, tv, lv, rv] 24) := ⟨_, rfl⟩
  have hE0 : Ext w wA := by rw [hwA]; exact Ext.alloc _ _
  have k0 : ∀ W, Ext wA W → W.cell? ⟨w.heap.size, 0, none⟩ = some (.int .i64 x.f) := by rw [hwA]; exact kept_alloc w _ _ rfl
  have k1 : ∀ W, Ext wA W → W.cell? ⟨w.heap.size, 1, none⟩ = some tv := by rw [hwA]; exact kept_alloc w _ _ rfl
  have k2 : ∀ W, Ext wA W → W.cell? ⟨w.heap.size, 2, none⟩ = some lv := by rw [hwA]; exact kept_alloc w _ _ rfl
  have k3 : ∀ W, Ext wA W → W.cell? ⟨w.heap.size, 3, none⟩ = some rv := by rw [hwA]; exact kept_alloc w _ _ rfl
  have H0 : Ext wA wA := Ext.refl _
  have HI := Lib.hid (hw.ext hE0)
  have HR := Lib.hid (h.ext hE0)
  have HK := Lib.hid (worded_c tv lv rv wv x l wA (h.ext hE0) (hw.ext hE0))
  have hs0 := hE0.size
  obtain ⟨aw, cw, rfl, _⟩ := hw.open_
  have HW := Lib.hid hwA; clear hwA h hw
  by_cases h0 : wordK x l = 0
  · obtain ⟨G, hl8, hsn⟩ := wordK_zero h0
    have HG := Lib.hid G; have HS := Lib.hid hsn; clear G hsn
    have ht2 := HG.out.len
    rw [atAllK, atAllL, if_pos h0, if_pos h0]
    rw [h0] at HK
    clear h0
    go_enter Try.func14, Try.ntmps14
    go_wp2_with fail
    rw [← HW.out]
    refine HK.out.mono ?_; rintro e w1 ⟨rfl, hx1⟩
    have hs1 := hx1.size
    go_wp2_with fail
    refine (all_c tv lv rv _ x l w1 (HR.out.ext hx1) (HI.out.ext hx1) HS.out (by omega) ht2).mono ?_; rintro e w2 ⟨v2, rfl, ho2, hx2⟩
    have HO2 := Lib.hid ho2; clear ho2
    go_wp2_with fail
    refine (short_c v2 _ w2 HO2.out.ints).mono ?_; rintro e w3 ⟨rfl, hx3⟩
    have HSH := Lib.hid (short_own (OInts.low (HO2.out.ext hx3) (show w.heap.size ≤ w1.heap.size by omega)))
    have HSK := Lib.hid (show (if 8 < (allL x l).length then (3 : Int) else 0) = shortK (allL x l) from rfl)
    rw [HSK.out]
    generalize shortK (allL x l) = sk at *
    generalize (if 8 < (allL x l).length then Value.slice none 0 0 else v2) = sv at *
    go_wp2_with fail
    go_ret2
    exact ⟨_, rfl, HSH.out, hE0.trans (hx1.trans (hx2.trans hx3))⟩
  · rw [atAllK, atAllL, if_neg h0, if_neg h0]
    have hk : (wordK x l != 0) = true := by simp [h0]
    generalize wordK x l = k at *
    clear h0
    go_enter Try.func14, Try.ntmps14
    go_wp2_with fail
    rw [← HW.out]
    refine HK.out.mono ?_; rintro e w1 ⟨rfl, hx1⟩
    go_wp2_with fail
    go_ret2
    exact ⟨_, rfl, OInts.nil _ _ _, hE0.trans hx1⟩

def plK (x : Rul) (l : List Int) : Int := wordK x l
def plL (x : Rul) (l : List Int) : List Int := if wordK x l = 0 then placesL x l else []

set_option maxHeartbeats 1000000 in
set_option maxRecDepth 100000 in
theorem Places_c (tv lv rv wv : Value) (x : Rul) (l : List Int) (w : World) (h : RulR w tv lv rv x) (hw : Ints w wv l) :
    Calls Try.prog 13 #[.agg #[.int .i64 x.f, tv, lv, rv], wv] w (RO2 (plL x l) (plK x l) w) := by
  obtain ⟨wA, hwA⟩ : ∃ wA, wA = w.alloc (.cells #[.int .i64 x.f, tv, lv, rv] 24) := ⟨_, rfl⟩
  have hE0 : Ext w wA := by rw [hwA]; exact Ext.alloc _ _
  have k0 : ∀ W, Ext wA W → W.cell? ⟨w.heap.size, 0, none⟩ = some (.int .i64 x.f) := by rw [hwA]; exact kept_alloc w _ _ rfl
  have k1 : ∀ W, Ext wA W → W.cell? ⟨w.heap.size, 1, none⟩ = some tv := by rw [hwA]; exact kept_alloc w _ _ rfl
  have k2 : ∀ W, Ext wA W → W.cell? ⟨w.heap.size, 2, none⟩ = some lv := by rw [hwA]; exact kept_alloc w _ _ rfl
  have k3 : ∀ W, Ext wA W → W.cell? ⟨w.heap.size, 3, none⟩ = some rv := by rw [hwA]; exact kept_alloc w _ _ rfl
  have H0 : Ext wA wA := Ext.refl _
  have HI := Lib.hid (hw.ext hE0)
  have HR := Lib.hid (h.ext hE0)
  have HK := Lib.hid (worded_c tv lv rv wv x l wA (h.ext hE0) (hw.ext hE0))
  have hs0 := hE0.size
  obtain ⟨aw, cw, rfl, _⟩ := hw.open_
  have HW := Lib.hid hwA; clear hwA h hw
  by_cases h0 : wordK x l = 0
  · obtain ⟨G, hl8, hsn⟩ := wordK_zero h0
    have HG := Lib.hid G; have HS := Lib.hid hsn; clear G hsn
    have ht2 := HG.out.len
    rw [plK, plL, if_pos h0, h0]
    rw [h0] at HK
    clear h0
    go_enter Try.func13, Try.ntmps13
    go_wp2_with fail
    rw [← HW.out]
    refine HK.out.mono ?_; rintro e w1 ⟨rfl, hx1⟩
    have hs1 := hx1.size
    go_wp2_with fail
    refine (places_c tv lv rv _ x l w1 (HR.out.ext hx1) (HI.out.ext hx1) HS.out (by omega)).mono ?_; rintro e w2 ⟨v2, rfl, ho2, hx2⟩
    have HO2 := Lib.hid (OInts.low ho2 (show w.heap.size ≤ w1.heap.size by omega)); clear ho2
    go_wp2_with fail
    go_ret2
    exact ⟨_, rfl, HO2.out, hE0.trans (hx1.trans hx2)⟩
  · rw [plK, plL, if_neg h0]
    have hk : (wordK x l != 0) = true := by simp [h0]
    generalize wordK x l = k at *
    clear h0
    go_enter Try.func13, Try.ntmps13
    go_wp2_with fail
    rw [← HW.out]
    refine HK.out.mono ?_; rintro e w1 ⟨rfl, hx1⟩
    go_wp2_with fail
    go_ret2
    exact ⟨_, rfl, OInts.nil _ _ _, hE0.trans hx1⟩

end Go.Proofs.Ythmdecgkbjdabaa

