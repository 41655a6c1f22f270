/- A rule at one place, at its first place; both packages. -/
import Derived.Test.YtojbamejhlaahaaRulI
namespace Go.Proofs.Ytojbamejhlaahaa
open Go.RowKit Go.Shelf
set_option linter.unusedVariables false

def apK (b : Bool) (L : List Int) : Int := bif b then shortK L else 6
def apL (b : Bool) (L : List Int) : List Int := bif b then shortL L else []
def applyK (x : Rul) (l : List Int) (i : Int) : Int := if wordK x l = 0 then apK (placeB x l i) (putL x l i.toNat) else wordK x l
def applyL (x : Rul) (l : List Int) (i : Int) : List Int := if wordK x l = 0 then apL (placeB x l i) (putL x l i.toNat) else []

set_option maxHeartbeats 1000000 in
set_option maxRecDepth 100000 in
theorem Apply_c (tv lv rv wv : Value) (x : Rul) (l : List Int) (i : Int) (w : World) (h : RulR w tv lv rv x) (hw : Ints w wv l) :
    Calls Try.prog 31 #[.agg #[.int .i64 x.f, tv, lv, rv], wv, .int .i64 i] w (RO2 (applyL x l i) (applyK x l i) w) := by
  obtain ⟨wA, hwA⟩ : ∃ wA, wA = w.alloc (.cells #[.int .i64 x.f, tv, lv, rv] 24) := ⟨_, rfl⟩
  have hE0 : Ext w wA := by rw [hwA]; exact Ext.alloc _ _
  have k0 : ∀ W, Ext wA W → W.cell? ⟨w.heap.size, 0, none⟩ = some (.int .i64 x.f) := by rw [hwA]; exact kept_alloc w _ _ rfl
  have k1 : ∀ W, Ext wA W → W.cell? ⟨w.heap.size, 1, none⟩ = some tv := by rw [hwA]; exact kept_alloc w _ _ rfl
  have k2 : ∀ W, Ext wA W → W.cell? ⟨w.heap.size, 2, none⟩ = some lv := by rw [hwA]; exact kept_alloc w _ _ rfl
  have k3 : ∀ W, Ext wA W → W.cell? ⟨w.heap.size, 3, none⟩ = some rv := by rw [hwA]; exact kept_alloc w _ _ rfl
  have H0 : Ext wA wA := Ext.refl _
  have HI := Lib.hid (hw.ext hE0)
  have HR := Lib.hid (h.ext hE0)
  have HK := Lib.hid (worded_c tv lv rv wv x l wA (h.ext hE0) (hw.ext hE0))
  have hs0 := hE0.size
  obtain ⟨aw, cw, rfl, _⟩ := hw.open_
  have HW := Lib.hid hwA; clear hwA h hw
  by_cases h0 : wordK x l = 0
  · obtain ⟨G, hl8, hsn⟩ := wordK_zero h0
    have HG := Lib.hid G; have HS := Lib.hid hsn; clear G hsn
    have ht2 := HG.out.len
    rw [applyK, applyL, if_pos h0, if_pos h0]
    rw [h0] at HK
    clear h0
    cases hpb : placeB x l i
    · have HPB := Lib.hid hpb; clear hpb
      show Calls _ _ _ _ (RO2 [] 6 w)
      go_enter Try.func31, Try.ntmps31
      go_wp2_with fail
      rw [← HW.out]
      refine HK.out.mono ?_; rintro e w1 ⟨rfl, hx1⟩
      have hs1 := hx1.size
      go_wp2_with fail
      refine (places_c tv lv rv _ x l w1 (HR.out.ext hx1) (HI.out.ext hx1) HS.out (by omega)).mono ?_; rintro e w2 ⟨v2, rfl, ho2, hx2⟩
      go_wp2_with fail
      refine (contains_c v2 _ i w2 ho2.ints).mono ?_; rw [has_place, HPB.out]; rintro e w3 ⟨rfl, rfl⟩
      clear ho2
      have hX2 := hx1.trans hx2
      go_wp2_with fail
      go_ret2
      exact ⟨_, rfl, OInts.nil _ _ _, hE0.trans hX2⟩
    · obtain ⟨n, rfl⟩ : ∃ n : Nat, i = n := ⟨i.toNat, by simp only [placeB, Bool.and_eq_true, decide_eq_true_eq] at hpb; omega⟩
      have hfit := placeB_nat hpb
      have HPB := Lib.hid hpb; clear hpb
      rw [Int.toNat_natCast]
      show Calls _ _ _ _ (RO2 (shortL (putL x l n)) (shortK (putL x l n)) w)
      go_enter Try.func31, Try.ntmps31
      go_wp2_with fail
      rw [← HW.out]
      refine HK.out.mono ?_; rintro e w1 ⟨rfl, hx1⟩
      have hs1 := hx1.size
      go_wp2_with fail
      refine (places_c tv lv rv _ x l w1 (HR.out.ext hx1) (HI.out.ext hx1) HS.out (by omega)).mono ?_; rintro e w2 ⟨v2, rfl, ho2, hx2⟩
      go_wp2_with fail
      refine (contains_c v2 _ (n : Int) w2 ho2.ints).mono ?_; rw [has_place, HPB.out]; rintro e w3 ⟨rfl, rfl⟩
      clear ho2
      have hX2 := hx1.trans hx2
      go_wp2_with fail
      refine (put_c tv lv rv _ x l n w2 (HR.out.ext hX2) (HI.out.ext hX2) hfit (by omega) (by omega)).mono ?_; rintro e w4 ⟨v4, rfl, ho4, hx4⟩
      have HO4 := Lib.hid ho4; clear ho4
      have hs2 := hX2.size
      generalize putL x l n = L at *
      go_wp2_with fail
      refine (short_c v4 _ w4 HO4.out.ints).mono ?_; rintro e w5 ⟨rfl, hx5⟩
      have HSH := Lib.hid (short_own (OInts.low (HO4.out.ext hx5) (show w.heap.size ≤ w2.heap.size by omega)))
      have HSK := Lib.hid (show (if 8 < L.length then (3 : Int) else 0) = shortK L from rfl)
      rw [HSK.out]
      generalize shortK L = sk at *
      generalize (if 8 < L.length then Value.slice none 0 0 else v4) = sv at *
      go_wp2_with fail
      go_ret2
      exact ⟨_, rfl, HSH.out, hE0.trans (hX2.trans (hx4.trans hx5))⟩
  · rw [applyK, applyL, if_neg h0, if_neg h0]
    have hk : (wordK x l != 0) = true := by simp [h0]
    generalize wordK x l = k at *
    clear h0
    go_enter Try.func31, Try.ntmps31
    go_wp2_with fail
    rw [← HW.out]
    refine HK.out.mono ?_; rintro e w1 ⟨rfl, hx1⟩
    go_wp2_with fail
    go_ret2
    exact ⟨_, rfl, OInts.nil _ _ _, hE0.trans hx1⟩

set_option maxHeartbeats 1000000 in
set_option maxRecDepth 100000 in
theorem rApply_c (tv lv rv wv : Value) (x : Rul) (l : List Int) (i : Int) (w : World) (h : RulR w tv lv rv x) (hw : Ints w wv l) (hi : (Lit.int .i64 i).wf = true) :
    Calls Try.prog 32 #[.agg #[.int .i64 x.f, tv, lv, rv], wv, .int .i64 i] w (RO2 (applyL x l i) (applyK x l i) w) := by
  obtain ⟨wA, hwA⟩ : ∃ wA, wA = w.alloc (.cells #[.int .i64 x.f, tv, lv, rv] 24) := ⟨_, rfl⟩
  have hE0 : Ext w wA := by rw [hwA]; exact Ext.alloc _ _
  have k0 : ∀ W, Ext wA W → W.cell? ⟨w.heap.size, 0, none⟩ = some (.int .i64 x.f) := by rw [hwA]; exact kept_alloc w _ _ rfl
  have k1 : ∀ W, Ext wA W → W.cell? ⟨w.heap.size, 1, none⟩ = some tv := by rw [hwA]; exact kept_alloc w _ _ rfl
  have k2 : ∀ W, Ext wA W → W.cell? ⟨w.heap.size, 2, none⟩ = some lv := by rw [hwA]; exact kept_alloc w _ _ rfl
  have k3 : ∀ W, Ext wA W → W.cell? ⟨w.heap.size, 3, none⟩ = some rv := by rw [hwA]; exact kept_alloc w _ _ rfl
  have H0 : Ext wA wA := Ext.refl _
  have HI := Lib.hid (hw.ext hE0)
  have HR := Lib.hid (h.ext hE0)
  have HK := Lib.hid (asked_c tv lv rv wv x l wA (h.ext hE0) (hw.ext hE0))
  have hs0 := hE0.size
  obtain ⟨aw, cw, rfl, _⟩ := hw.open_
  have HW := Lib.hid hwA; clear hwA h hw
  by_cases h0 : wordK x l = 0
  · obtain ⟨G, hl8, hsn⟩ := wordK_zero h0
    have HG := Lib.hid G; have HS := Lib.hid hsn; clear G hsn
    have ht2 := HG.out.len
    rw [applyK, applyL, if_pos h0, if_pos h0]
    rw [h0] at HK
    clear h0
    cases hpb : placeB x l i
    · have HPB := Lib.hid hpb; clear hpb
      show Calls _ _ _ _ (RO2 [] 6 w)
      go_enter Try.func32, Try.ntmps32
      go_wp2_with fail
      rw [← HW.out]
      refine HK.out.mono ?_; rintro e w1 ⟨rfl, hx1⟩
      have hs1 := hx1.size
      go_wp2_with fail
      refine (isPlace_c tv lv rv _ x l i w1 (HR.out.ext hx1) (HI.out.ext hx1) HG.out.nb (by omega) hi).mono ?_; rw [HPB.out]; rintro e w2 ⟨rfl, hx2⟩
      have hX2 := hx1.trans hx2
      go_wp2_with fail
      go_ret2
      exact ⟨_, rfl, OInts.nil _ _ _, hE0.trans hX2⟩
    · obtain ⟨n, rfl⟩ : ∃ n : Nat, i = n := ⟨i.toNat, by simp only [placeB, Bool.and_eq_true, decide_eq_true_eq] at hpb; omega⟩
      have hfit := placeB_nat hpb
      have HPB := Lib.hid hpb; clear hpb
      rw [Int.toNat_natCast]
      show Calls _ _ _ _ (RO2 (shortL (putL x l n)) (shortK (putL x l n)) w)
      go_enter Try.func32, Try.ntmps32
      go_wp2_with fail
      rw [← HW.out]
      refine HK.out.mono ?_; rintro e w1 ⟨rfl, hx1⟩
      have hs1 := hx1.size
      go_wp2_with fail
      refine (isPlace_c tv lv rv _ x l (n : Int) w1 (HR.out.ext hx1) (HI.out.ext hx1) HG.out.nb (by omega) hi).mono ?_; rw [HPB.out]; rintro e w2 ⟨rfl, hx2⟩
      have hX2 := hx1.trans hx2
      go_wp2_with fail
      refine (rput_c tv lv rv _ x l n w2 (HR.out.ext hX2) (HI.out.ext hX2) hfit (by omega) (by omega) HG.out.nb).mono ?_; rintro e w4 ⟨v4, rfl, ho4, hx4⟩
      have HO4 := Lib.hid ho4; clear ho4
      have hs2 := hX2.size
      generalize putL x l n = L at *
      go_wp2_with fail
      refine (told_c v4 _ w4 HO4.out.ints).mono ?_; rintro e w5 ⟨rfl, hx5⟩
      have HSH := Lib.hid (short_own (OInts.low (HO4.out.ext hx5) (show w.heap.size ≤ w2.heap.size by omega)))
      have HSK := Lib.hid (show (if 8 < L.length then (3 : Int) else 0) = shortK L from rfl)
      rw [HSK.out]
      generalize shortK L = sk at *
      generalize (if 8 < L.length then Value.slice none 0 0 else v4) = sv at *
      go_wp2_with fail
      go_ret2
      exact ⟨_, rfl, HSH.out, hE0.trans (hX2.trans (hx4.trans hx5))⟩
  · rw [applyK, applyL, if_neg h0, if_neg h0]
    have hk : (wordK x l != 0) = true := by simp [h0]
    generalize wordK x l = k at *
    clear h0
    go_enter Try.func32, Try.ntmps32
    go_wp2_with fail
    rw [← HW.out]
    refine HK.out.mono ?_; rintro e w1 ⟨rfl, hx1⟩
    go_wp2_with fail
    go_ret2
    exact ⟨_, rfl, OInts.nil _ _ _, hE0.trans hx1⟩
end Go.Proofs.Ytojbamejhlaahaa

