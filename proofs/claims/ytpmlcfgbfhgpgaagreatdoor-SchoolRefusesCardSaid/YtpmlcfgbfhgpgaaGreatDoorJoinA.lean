/- Several texts in one: IterN, RulF, RulG, RulH, RulI, RulJ, Two, TwoB, TwoC, OrdP, SchP, SchA, SchB, SchC, SchD, SchE, As, AsB, AsC, OrdA, OrdB, OrdC, OrdD, OrdE. -/
import Derived.Test.YtpmlcfgbfhgpgaaGreatDoorIter
import Derived.Test.YtpmlcfgbfhgpgaaGreatDoorRulE
import Derived.LoopIn
import Derived.OwnWalkIn
import Derived.ChangeKeysEq
import Derived.Test.YtpmlcfgbfhgpgaaGreatDoorPeek
import Derived.Test.YtpmlcfgbfhgpgaaGreatDoorBkP
import Derived.Test.YtpmlcfgbfhgpgaaGreatDoorJoinC
import Derived.Lib.ConvBytes
import Derived.Lib.AtoiAll
import Derived.Stop.Asserts
import Derived.LaidEql
import Derived.Test.YtpmlcfgbfhgpgaaGreatDoorHol
import Derived.Test.YtpmlcfgbfhgpgaaGreatDoorStru
import Derived.Deep.CutRange
import Derived.Deep.CutBlock
/- A range over a function that hands out two values and has no row of its own: the iterator's contract, the caller's law. Over any program. -/
namespace Go.Proofs.YtpmlcfgbfhgpgaaGreatDoor
open Go.RowKit
set_option linter.unusedVariables false
end Go.Proofs.YtpmlcfgbfhgpgaaGreatDoor
/- A range backward over a list of ints. -/
namespace Go.Proofs.YtpmlcfgbfhgpgaaGreatDoor
open Go.RowKit Go.Shelf
set_option linter.unusedVariables false
end Go.Proofs.YtpmlcfgbfhgpgaaGreatDoor
/- A rule at all its places at once; both packages. -/
namespace Go.Proofs.YtpmlcfgbfhgpgaaGreatDoor
open Go.RowKit Go.Shelf
attribute [local go_sem] Oper.semAt_some
set_option linter.unusedVariables false
theorem sel_sorted {n : Nat} {f : Nat → Bool} {k m : Nat} (hk : k < m) (hm : m < (sel n f).length) : (sel n f)[k]?.getD 0 < (sel n f)[m]?.getD 0 := by
 have hs : (sel n f).Pairwise (· < ·) := by
  unfold sel
  rw [List.pairwise_map]
  refine (List.Pairwise.filter _ List.pairwise_lt_range).imp ?_
  intro a b h; exact Int.ofNat_lt.2 h
 have hkl : k < (sel n f).length := by omega
 have := List.pairwise_iff_getElem.1 hs k m hkl hm hk
 rw [List.getElem?_eq_getElem hkl, List.getElem?_eq_getElem hm]
 exact this
end Go.Proofs.YtpmlcfgbfhgpgaaGreatDoor
/- A rule at all places, along a word; both packages. -/
namespace Go.Proofs.YtpmlcfgbfhgpgaaGreatDoor
open Go.RowKit Go.Shelf
set_option linter.unusedVariables false
def RO2 (l : List Int) (k : Int) (w : World) (e : Ending) (w' : World) : Prop := ∃ v, e = .returned (.tuple #[v, .int .i64 k]) ∧ OInts 3 w' w.heap.size v l ∧ Ext w w'
structure GoodR (x : Rul) : Prop where
 nb : nbB x.f = true
 len : x.t.length ≤ 2
 snd : sndB x.t = true
 l : setB x.l = true
 r : setB x.r = true
theorem validR_zero {x : Rul} (h : validR x = 0) : GoodR x := by
 unfold validR at h
 split at h
 ·rename_i h1
  split at h
  ·omega
  ·rename_i h2
   split at h
   ·rename_i h3
    simp only [Bool.and_eq_true] at h3
    exact ⟨h1, by omega, h3.1.1, h3.1.2, h3.2⟩
   ·omega
 ·omega
theorem validW_zero {w : List Int} (h : validW w = 0) : w.length ≤ 8 ∧ sndB w = true := by
 unfold validW at h
 split at h
 ·omega
 ·split at h
  ·rename_i h1 h2; exact ⟨by omega, h2⟩
  ·omega
theorem wordK_zero {x : Rul} {w : List Int} (h : wordK x w = 0) : GoodR x ∧ w.length ≤ 8 ∧ sndB w = true := by
 unfold wordK at h
 split at h
 ·rename_i h1; exact ⟨validR_zero h1, validW_zero h⟩
 ·omega
theorem short_c (v : Value) (l : List Int) (w : World) (h : Ints w v l) : Calls Tryz.prog 107 #[v] w (RV (.tuple #[if 8 < l.length then .slice none 0 0 else v, .int .i64 (if 8 < l.length then 3 else 0)]) w) := by
 obtain ⟨a, c, rfl, _⟩ := h.open_
 clear h
 by_cases h8 : 8 < l.length
 ·rw [if_pos h8, if_pos h8]
  go_enter Tryz.func107, Tryz.ntmps107
  go_wp2_with fail
  go_ret2
  exact RV.mk rfl (Ext.refl _)
 ·rw [if_neg h8, if_neg h8]
  go_enter Tryz.func107, Tryz.ntmps107
  go_wp2_with fail
  go_ret2
  exact RV.mk rfl (Ext.refl _)
theorem told_c (v : Value) (l : List Int) (w : World) (h : Ints w v l) : Calls Tryz.prog 237 #[v] w (RV (.tuple #[if 8 < l.length then .slice none 0 0 else v, .int .i64 (if 8 < l.length then 3 else 0)]) w) := by
 obtain ⟨a, c, rfl, _⟩ := h.open_
 clear h
 by_cases h8 : 8 < l.length
 ·rw [if_pos h8, if_pos h8]
  go_enter Tryz.func237, Tryz.ntmps237
  go_wp2_with fail
  go_ret2
  exact RV.mk rfl (Ext.refl _)
 ·rw [if_neg h8, if_neg h8]
  go_enter Tryz.func237, Tryz.ntmps237
  go_wp2_with fail
  go_ret2
  exact RV.mk rfl (Ext.refl _)
def shortK (l : List Int) : Int := if 8 < l.length then 3 else 0
def shortL (l : List Int) : List Int := if 8 < l.length then [] else l
theorem short_own {w : World} {B : Nat} {v : Value} {l : List Int} (h : OInts 3 w B v l) : OInts 3 w B (if 8 < l.length then .slice none 0 0 else v) (shortL l) := by
 unfold shortL; split
 ·exact OInts.nil _ _ _
 ·exact h
def plK (x : Rul) (l : List Int) : Int := wordK x l
def plL (x : Rul) (l : List Int) : List Int := if wordK x l = 0 then placesL x l else []
set_option maxHeartbeats 1000000 in
set_option maxRecDepth 100000 in
theorem Places_c (tv lv rv wv : Value) (x : Rul) (l : List Int) (w : World) (h : RulR w tv lv rv x) (hw : Ints w wv l) :
  Calls Tryz.prog 131 #[.agg #[.int .i64 x.f, tv, lv, rv], wv] w (RO2 (plL x l) (plK x l) w) := by
 obtain ⟨wA, hwA⟩ : ∃ wA, wA = w.alloc (.cells #[.int .i64 x.f, tv, lv, rv] 70) := ⟨_, rfl⟩
 have hE0 : Ext w wA := by rw [hwA]; exact Ext.alloc _ _
 have k0 : ∀ W, Ext wA W → W.cell? ⟨w.heap.size, 0, none⟩ = some (.int .i64 x.f) := by rw [hwA]; exact kept_alloc w _ _ rfl
 have k1 : ∀ W, Ext wA W → W.cell? ⟨w.heap.size, 1, none⟩ = some tv := by rw [hwA]; exact kept_alloc w _ _ rfl
 have k2 : ∀ W, Ext wA W → W.cell? ⟨w.heap.size, 2, none⟩ = some lv := by rw [hwA]; exact kept_alloc w _ _ rfl
 have k3 : ∀ W, Ext wA W → W.cell? ⟨w.heap.size, 3, none⟩ = some rv := by rw [hwA]; exact kept_alloc w _ _ rfl
 have H0 : Ext wA wA := Ext.refl _
 have HI := Lib.hid (hw.ext hE0)
 have HR := Lib.hid (h.ext hE0)
 have HK := Lib.hid (worded_c tv lv rv wv x l wA (h.ext hE0) (hw.ext hE0))
 have hs0 := hE0.size
 obtain ⟨aw, cw, rfl, _⟩ := hw.open_
 have HW := Lib.hid hwA; clear hwA h hw
 by_cases h0 : wordK x l = 0
 ·obtain ⟨G, hl8, hsn⟩ := wordK_zero h0
  have HG := Lib.hid G; have HS := Lib.hid hsn; clear G hsn
  have ht2 := HG.out.len
  rw [plK, plL, if_pos h0, h0]
  rw [h0] at HK
  clear h0
  go_enter Tryz.func131, Tryz.ntmps131
  go_wp2_with fail
  rw [← HW.out]
  refine HK.out.mono ?_; rintro e w1 ⟨rfl, hx1⟩
  have hs1 := hx1.size
  go_wp2_with fail
  refine (places_c tv lv rv _ x l w1 (HR.out.ext hx1) (HI.out.ext hx1) HS.out (by omega)).mono ?_; rintro e w2 ⟨v2, rfl, ho2, hx2⟩
  have HO2 := Lib.hid (OInts.low ho2 (show w.heap.size ≤ w1.heap.size by omega)); clear ho2
  go_wp2_with fail
  go_ret2
  exact ⟨_, rfl, HO2.out, hE0.trans (hx1.trans hx2)⟩
 ·rw [plK, plL, if_neg h0]
  have hk : (wordK x l != 0) = true := by simp [h0]
  generalize wordK x l = k at *
  clear h0
  go_enter Tryz.func131, Tryz.ntmps131
  go_wp2_with fail
  rw [← HW.out]
  refine HK.out.mono ?_; rintro e w1 ⟨rfl, hx1⟩
  go_wp2_with fail
  go_ret2
  exact ⟨_, rfl, OInts.nil _ _ _, hE0.trans hx1⟩
end Go.Proofs.YtpmlcfgbfhgpgaaGreatDoor
/- A rule along a word; both packages. -/
namespace Go.Proofs.YtpmlcfgbfhgpgaaGreatDoor
open Go.RowKit Go.Shelf
set_option linter.unusedVariables false
theorem sndB_iff (l : List Int) : sndB l = true ↔ ∀ y ∈ l, inB y 0 5 = true := by
 unfold sndB allB
 rw [List.all_eq_true]
 constructor
 ·intro h y hy
  obtain ⟨i, hi, rfl⟩ := List.mem_iff_getElem.1 hy
  have := h i (by simpa using hi)
  rwa [List.getElem?_eq_getElem hi] at this
 ·intro h i hi
  have hi : i < l.length := by simpa using hi
  rw [List.getElem?_eq_getElem hi]
  exact h _ (List.getElem_mem hi)
theorem sndB_put {x : Rul} {l : List Int} {i : Nat} (h : sndB l = true) (ht : sndB x.t = true) : sndB (putL x l i) = true := by
 rw [sndB_iff] at *
 intro y hy
 rw [putL, List.mem_append, List.mem_append] at hy
 rcases hy with hy | hy | hy
 ·exact h y (List.mem_of_mem_take hy)
 ·exact ht y hy
 ·exact h y (List.mem_of_mem_drop hy)
theorem placeB_nat {x : Rul} {l : List Int} {i : Nat} (h : placeB x l i = true) : i + lng x ≤ l.length := by
 simp only [placeB, Bool.and_eq_true, decide_eq_true_eq] at h
 omega
theorem mem_sel {n : Nat} {f : Nat → Bool} {i : Int} : i ∈ sel n f ↔ ∃ k : Nat, k < n ∧ f k = true ∧ i = k := by
 simp only [sel, List.mem_map, List.mem_filter, List.mem_range]
 constructor
 ·rintro ⟨k, ⟨hk, h1⟩, he⟩; exact ⟨k, hk, h1, he.symm⟩
 ·rintro ⟨k, hk, h1, he⟩; exact ⟨k, ⟨hk, h1⟩, he.symm⟩
theorem has_place (x : Rul) (l : List Int) (i : Int) : hasB (placesL x l) i = placeB x l i := by
 rw [hasB_eq, Bool.eq_iff_iff, List.contains_iff_mem, placesL_all, mem_sel]
 constructor
 ·rintro ⟨k, _, h, rfl⟩; exact h
 ·intro h
  have h2 := h
  simp only [placeB, Bool.and_eq_true, decide_eq_true_eq] at h2
  refine ⟨i.toNat, by have := h2.1.2; omega, ?_, by omega⟩
  rw [Int.toNat_of_nonneg h2.1.1]; exact h
end Go.Proofs.YtpmlcfgbfhgpgaaGreatDoor
/- A rule at one place, at its first place; both packages. -/
namespace Go.Proofs.YtpmlcfgbfhgpgaaGreatDoor
open Go.RowKit Go.Shelf
set_option linter.unusedVariables false
def apK (b : Bool) (L : List Int) : Int := bif b then shortK L else 6
def apL (b : Bool) (L : List Int) : List Int := bif b then shortL L else []
def applyK (x : Rul) (l : List Int) (i : Int) : Int := if wordK x l = 0 then apK (placeB x l i) (putL x l i.toNat) else wordK x l
def applyL (x : Rul) (l : List Int) (i : Int) : List Int := if wordK x l = 0 then apL (placeB x l i) (putL x l i.toNat) else []
set_option maxHeartbeats 1000000 in
set_option maxRecDepth 100000 in
theorem Apply_c (tv lv rv wv : Value) (x : Rul) (l : List Int) (i : Int) (w : World) (h : RulR w tv lv rv x) (hw : Ints w wv l) :
  Calls Tryz.prog 72 #[.agg #[.int .i64 x.f, tv, lv, rv], wv, .int .i64 i] w (RO2 (applyL x l i) (applyK x l i) w) := by
 obtain ⟨wA, hwA⟩ : ∃ wA, wA = w.alloc (.cells #[.int .i64 x.f, tv, lv, rv] 70) := ⟨_, rfl⟩
 have hE0 : Ext w wA := by rw [hwA]; exact Ext.alloc _ _
 have k0 : ∀ W, Ext wA W → W.cell? ⟨w.heap.size, 0, none⟩ = some (.int .i64 x.f) := by rw [hwA]; exact kept_alloc w _ _ rfl
 have k1 : ∀ W, Ext wA W → W.cell? ⟨w.heap.size, 1, none⟩ = some tv := by rw [hwA]; exact kept_alloc w _ _ rfl
 have k2 : ∀ W, Ext wA W → W.cell? ⟨w.heap.size, 2, none⟩ = some lv := by rw [hwA]; exact kept_alloc w _ _ rfl
 have k3 : ∀ W, Ext wA W → W.cell? ⟨w.heap.size, 3, none⟩ = some rv := by rw [hwA]; exact kept_alloc w _ _ rfl
 have H0 : Ext wA wA := Ext.refl _
 have HI := Lib.hid (hw.ext hE0)
 have HR := Lib.hid (h.ext hE0)
 have HK := Lib.hid (worded_c tv lv rv wv x l wA (h.ext hE0) (hw.ext hE0))
 have hs0 := hE0.size
 obtain ⟨aw, cw, rfl, _⟩ := hw.open_
 have HW := Lib.hid hwA; clear hwA h hw
 by_cases h0 : wordK x l = 0
 ·obtain ⟨G, hl8, hsn⟩ := wordK_zero h0
  have HG := Lib.hid G; have HS := Lib.hid hsn; clear G hsn
  have ht2 := HG.out.len
  rw [applyK, applyL, if_pos h0, if_pos h0]
  rw [h0] at HK
  clear h0
  cases hpb : placeB x l i
  ·have HPB := Lib.hid hpb; clear hpb
   show Calls _ _ _ _ (RO2 [] 6 w)
   go_enter Tryz.func72, Tryz.ntmps72
   go_wp2_with fail
   rw [← HW.out]
   refine HK.out.mono ?_; rintro e w1 ⟨rfl, hx1⟩
   have hs1 := hx1.size
   go_wp2_with fail
   refine (places_c tv lv rv _ x l w1 (HR.out.ext hx1) (HI.out.ext hx1) HS.out (by omega)).mono ?_; rintro e w2 ⟨v2, rfl, ho2, hx2⟩
   go_wp2_with fail
   refine (contains_c v2 _ i w2 ho2.ints).mono ?_; rw [has_place, HPB.out]; rintro e w3 ⟨rfl, rfl⟩
   clear ho2
   have hX2 := hx1.trans hx2
   go_wp2_with fail
   go_ret2
   exact ⟨_, rfl, OInts.nil _ _ _, hE0.trans hX2⟩
  ·obtain ⟨n, rfl⟩ : ∃ n : Nat, i = n := ⟨i.toNat, by simp only [placeB, Bool.and_eq_true, decide_eq_true_eq] at hpb; omega⟩
   have hfit := placeB_nat hpb
   have HPB := Lib.hid hpb; clear hpb
   rw [Int.toNat_natCast]
   show Calls _ _ _ _ (RO2 (shortL (putL x l n)) (shortK (putL x l n)) w)
   go_enter Tryz.func72, Tryz.ntmps72
   go_wp2_with fail
   rw [← HW.out]
   refine HK.out.mono ?_; rintro e w1 ⟨rfl, hx1⟩
   have hs1 := hx1.size
   go_wp2_with fail
   refine (places_c tv lv rv _ x l w1 (HR.out.ext hx1) (HI.out.ext hx1) HS.out (by omega)).mono ?_; rintro e w2 ⟨v2, rfl, ho2, hx2⟩
   go_wp2_with fail
   refine (contains_c v2 _ (n : Int) w2 ho2.ints).mono ?_; rw [has_place, HPB.out]; rintro e w3 ⟨rfl, rfl⟩
   clear ho2
   have hX2 := hx1.trans hx2
   go_wp2_with fail
   refine (put_c tv lv rv _ x l n w2 (HR.out.ext hX2) (HI.out.ext hX2) hfit (by omega) (by omega)).mono ?_; rintro e w4 ⟨v4, rfl, ho4, hx4⟩
   have HO4 := Lib.hid ho4; clear ho4
   have hs2 := hX2.size
   generalize putL x l n = L at *
   go_wp2_with fail
   refine (short_c v4 _ w4 HO4.out.ints).mono ?_; rintro e w5 ⟨rfl, hx5⟩
   have HSH := Lib.hid (short_own (OInts.low (HO4.out.ext hx5) (show w.heap.size ≤ w2.heap.size by omega)))
   have HSK := Lib.hid (show (if 8 < L.length then (3 : Int) else 0) = shortK L from rfl)
   rw [HSK.out]
   generalize shortK L = sk at *
   generalize (if 8 < L.length then Value.slice none 0 0 else v4) = sv at *
   go_wp2_with fail
   go_ret2
   exact ⟨_, rfl, HSH.out, hE0.trans (hX2.trans (hx4.trans hx5))⟩
 ·rw [applyK, applyL, if_neg h0, if_neg h0]
  have hk : (wordK x l != 0) = true := by simp [h0]
  generalize wordK x l = k at *
  clear h0
  go_enter Tryz.func72, Tryz.ntmps72
  go_wp2_with fail
  rw [← HW.out]
  refine HK.out.mono ?_; rintro e w1 ⟨rfl, hx1⟩
  go_wp2_with fail
  go_ret2
  exact ⟨_, rfl, OInts.nil _ _ _, hE0.trans hx1⟩
set_option maxHeartbeats 1000000 in
set_option maxRecDepth 100000 in
theorem rApply_c (tv lv rv wv : Value) (x : Rul) (l : List Int) (i : Int) (w : World) (h : RulR w tv lv rv x) (hw : Ints w wv l) (hi : (Lit.int .i64 i).wf = true) :
  Calls Tryz.prog 210 #[.agg #[.int .i64 x.f, tv, lv, rv], wv, .int .i64 i] w (RO2 (applyL x l i) (applyK x l i) w) := by
 obtain ⟨wA, hwA⟩ : ∃ wA, wA = w.alloc (.cells #[.int .i64 x.f, tv, lv, rv] 70) := ⟨_, rfl⟩
 have hE0 : Ext w wA := by rw [hwA]; exact Ext.alloc _ _
 have k0 : ∀ W, Ext wA W → W.cell? ⟨w.heap.size, 0, none⟩ = some (.int .i64 x.f) := by rw [hwA]; exact kept_alloc w _ _ rfl
 have k1 : ∀ W, Ext wA W → W.cell? ⟨w.heap.size, 1, none⟩ = some tv := by rw [hwA]; exact kept_alloc w _ _ rfl
 have k2 : ∀ W, Ext wA W → W.cell? ⟨w.heap.size, 2, none⟩ = some lv := by rw [hwA]; exact kept_alloc w _ _ rfl
 have k3 : ∀ W, Ext wA W → W.cell? ⟨w.heap.size, 3, none⟩ = some rv := by rw [hwA]; exact kept_alloc w _ _ rfl
 have H0 : Ext wA wA := Ext.refl _
 have HI := Lib.hid (hw.ext hE0)
 have HR := Lib.hid (h.ext hE0)
 have HK := Lib.hid (asked_c tv lv rv wv x l wA (h.ext hE0) (hw.ext hE0))
 have hs0 := hE0.size
 obtain ⟨aw, cw, rfl, _⟩ := hw.open_
 have HW := Lib.hid hwA; clear hwA h hw
 by_cases h0 : wordK x l = 0
 ·obtain ⟨G, hl8, hsn⟩ := wordK_zero h0
  have HG := Lib.hid G; have HS := Lib.hid hsn; clear G hsn
  have ht2 := HG.out.len
  rw [applyK, applyL, if_pos h0, if_pos h0]
  rw [h0] at HK
  clear h0
  cases hpb : placeB x l i
  ·have HPB := Lib.hid hpb; clear hpb
   show Calls _ _ _ _ (RO2 [] 6 w)
   go_enter Tryz.func210, Tryz.ntmps210
   go_wp2_with fail
   rw [← HW.out]
   refine HK.out.mono ?_; rintro e w1 ⟨rfl, hx1⟩
   have hs1 := hx1.size
   go_wp2_with fail
   refine (isPlace_c tv lv rv _ x l i w1 (HR.out.ext hx1) (HI.out.ext hx1) HG.out.nb (by omega) hi).mono ?_; rw [HPB.out]; rintro e w2 ⟨rfl, hx2⟩
   have hX2 := hx1.trans hx2
   go_wp2_with fail
   go_ret2
   exact ⟨_, rfl, OInts.nil _ _ _, hE0.trans hX2⟩
  ·obtain ⟨n, rfl⟩ : ∃ n : Nat, i = n := ⟨i.toNat, by simp only [placeB, Bool.and_eq_true, decide_eq_true_eq] at hpb; omega⟩
   have hfit := placeB_nat hpb
   have HPB := Lib.hid hpb; clear hpb
   rw [Int.toNat_natCast]
   show Calls _ _ _ _ (RO2 (shortL (putL x l n)) (shortK (putL x l n)) w)
   go_enter Tryz.func210, Tryz.ntmps210
   go_wp2_with fail
   rw [← HW.out]
   refine HK.out.mono ?_; rintro e w1 ⟨rfl, hx1⟩
   have hs1 := hx1.size
   go_wp2_with fail
   refine (isPlace_c tv lv rv _ x l (n : Int) w1 (HR.out.ext hx1) (HI.out.ext hx1) HG.out.nb (by omega) hi).mono ?_; rw [HPB.out]; rintro e w2 ⟨rfl, hx2⟩
   have hX2 := hx1.trans hx2
   go_wp2_with fail
   refine (rput_c tv lv rv _ x l n w2 (HR.out.ext hX2) (HI.out.ext hX2) hfit (by omega) (by omega) HG.out.nb).mono ?_; rintro e w4 ⟨v4, rfl, ho4, hx4⟩
   have HO4 := Lib.hid ho4; clear ho4
   have hs2 := hX2.size
   generalize putL x l n = L at *
   go_wp2_with fail
   refine (told_c v4 _ w4 HO4.out.ints).mono ?_; rintro e w5 ⟨rfl, hx5⟩
   have HSH := Lib.hid (short_own (OInts.low (HO4.out.ext hx5) (show w.heap.size ≤ w2.heap.size by omega)))
   have HSK := Lib.hid (show (if 8 < L.length then (3 : Int) else 0) = shortK L from rfl)
   rw [HSK.out]
   generalize shortK L = sk at *
   generalize (if 8 < L.length then Value.slice none 0 0 else v4) = sv at *
   go_wp2_with fail
   go_ret2
   exact ⟨_, rfl, HSH.out, hE0.trans (hX2.trans (hx4.trans hx5))⟩
 ·rw [applyK, applyL, if_neg h0, if_neg h0]
  have hk : (wordK x l != 0) = true := by simp [h0]
  generalize wordK x l = k at *
  clear h0
  go_enter Tryz.func210, Tryz.ntmps210
  go_wp2_with fail
  rw [← HW.out]
  refine HK.out.mono ?_; rintro e w1 ⟨rfl, hx1⟩
  go_wp2_with fail
  go_ret2
  exact ⟨_, rfl, OInts.nil _ _ _, hE0.trans hx1⟩
end Go.Proofs.YtpmlcfgbfhgpgaaGreatDoor
/- Two rules: both sides, special, what both let be; both packages. -/
namespace Go.Proofs.YtpmlcfgbfhgpgaaGreatDoor
open Go.RowKit Go.Shelf
set_option linter.unusedVariables false
theorem kept_alloc2 (w : World) (cs ds : Array Value) (ty tz : TypeId) {i : Nat} {v : Value} (h : cs[i]? = some v) : ∀ W, Ext ((w.alloc (.cells cs ty)).alloc (.cells ds tz)) W → W.cell? ⟨w.heap.size, i, none⟩ = some v :=
 fun W hW => hW.keep ((Ext.alloc _ _).keep (alloc_cell w cs ty h))
theorem kept_alloc2' (w : World) (cs ds : Array Value) (ty tz : TypeId) {i : Nat} {v : Value} (h : ds[i]? = some v) : ∀ W, Ext ((w.alloc (.cells cs ty)).alloc (.cells ds tz)) W → W.cell? ⟨w.heap.size + 1, i, none⟩ = some v :=
 fun W hW => hW.keep (by have := alloc_cell (w.alloc (.cells cs ty)) ds tz h; simpa using this)
theorem run_eqItems_bools {P : Program} (w : World) (d : Nat) {e : TypeId} (he : P.plainKey e = true) (hb : P.underlying e = some .bool) (xs ys : Array Value) (A B : Nat → Bool) : ∀ (is : List Nat),
  (∀ i ∈ is, xs[i]? = some (.bool (A i)) ∧ ys[i]? = some (.bool (B i))) → (Op.eqItems (d + 1) e 1 xs ys is).run P w = .ok (is.all fun i => A i == B i) w
 | [], _ => by simp [Op.eqItems]
 | i :: is, h => by
  obtain ⟨h1, h2⟩ := h i (by simp)
  have ih := run_eqItems_bools w d he hb xs ys A B is (fun j hj => h j (by simp [hj]))
  simp only [Op.eqItems, Sem.run_bind, Nat.mul_one, run_part_plain w he h1, run_part_plain w he h2, Result.andThen_ok, run_equalIn_bool' w d e _ _ hb]
  by_cases hab : A i = B i
  ·simp [hab, ih]
  ·have : (A i == B i) = false := by simpa using hab
   simp [this]
theorem run_eql_bools {P : Program} (w : World) {t e : TypeId} {n : Nat} (hu : P.underlying t = some (.array n e)) (hi : (P.info? e).isSome = true) (hc : P.cellsOf e = 1) (he : P.plainKey e = true) (hb : P.underlying e = some .bool) (xs ys : Array Value) (A B : Nat → Bool)
  (h : ∀ i, i < n → xs[i]? = some (.bool (A i)) ∧ ys[i]? = some (.bool (B i))) : (binOp .eql t (.agg xs) (.agg ys)).run P w = .ok (.bool ((List.range n).all fun i => A i == B i)) w := by
 obtain ⟨i, hi⟩ := Option.isSome_iff_exists.1 hi
 rw [run_eql_struct, run_equalIn_array w 9999 _ _ hu hi, hc, run_eqItems_bools w 9998 he hb xs ys A B _ (fun i hi => h i (by simpa using hi))]
 rfl
theorem run_eql_side (w : World) (a0 a1 a2 a3 a4 a5 a6 b0 b1 b2 b3 b4 b5 b6 : Bool) :
  (binOp .eql 216 (.agg #[.bool a0, .bool a1, .bool a2, .bool a3, .bool a4, .bool a5, .bool a6]) (.agg #[.bool b0, .bool b1, .bool b2, .bool b3, .bool b4, .bool b5, .bool b6])).run Tryz.prog w = .ok (.bool (a0 == b0 && (a1 == b1 && (a2 == b2 && (a3 == b3 && (a4 == b4 && (a5 == b5 && a6 == b6))))))) w := by
 rw [run_eql_bools w Tryz.underlying216 (by kernel_rfl) (by kernel_rfl) (by kernel_rfl) Tryz.underlying4 _ _ (fun i => [a0, a1, a2, a3, a4, a5, a6].getD i false) (fun i => [b0, b1, b2, b3, b4, b5, b6].getD i false)
  (fun i hi => by have : i = 0 ∨ i = 1 ∨ i = 2 ∨ i = 3 ∨ i = 4 ∨ i = 5 ∨ i = 6 := by omega
                  rcases this with rfl | rfl | rfl | rfl | rfl | rfl | rfl <;> exact ⟨rfl, rfl⟩)]
 simp [List.range, List.range.loop]
def twoK (x y : Rul) : Int := if validR x = 0 then validR y else validR x
def bothB (a b : List Int) (n : Int) : Bool := mayB a n && mayB b n
def bothA (a b : List Int) : Array Value := #[.bool (bothB a b (-1)), .bool (bothB a b 0), .bool (bothB a b 1), .bool (bothB a b 2), .bool (bothB a b 3), .bool (bothB a b 4), .bool (bothB a b 5)]
def bothV (a b : List Int) : Value := .agg (bothA a b)
def comL (a b : List Int) : List Int := (sel 7 fun i => bothB a b ((i : Int) - 1)).map fun i => i - 1
def insB (a b : List Int) : Bool := allB 7 fun i => !(mayB a ((i : Int) - 1) && !mayB b ((i : Int) - 1))
theorem allB7 (f : Nat → Bool) : allB 7 f = (f 0 && (f 1 && (f 2 && (f 3 && (f 4 && (f 5 && f 6)))))) := by simp [allB, List.range, List.range.loop]
theorem two_c (tv lv rv tu lu ru : Value) (x y : Rul) (w : World) (hr : RulR w tv lv rv x) (hs : RulR w tu lu ru y) : Calls Tryz.prog 261 #[.agg #[.int .i64 x.f, tv, lv, rv], .agg #[.int .i64 y.f, tu, lu, ru]] w (RV (.int .i64 (twoK x y)) w) := by
 obtain ⟨wA, hwA⟩ : ∃ wA, wA = (w.alloc (.cells #[.int .i64 x.f, tv, lv, rv] 70)).alloc (.cells #[.int .i64 y.f, tu, lu, ru] 70) := ⟨_, rfl⟩
 have hE0 : Ext w wA := by rw [hwA]; exact (Ext.alloc _ _).trans (Ext.alloc _ _)
 have k0 : ∀ W, Ext wA W → W.cell? ⟨w.heap.size, 0, none⟩ = some (.int .i64 x.f) := by rw [hwA]; exact kept_alloc2 w _ _ _ _ rfl
 have k1 : ∀ W, Ext wA W → W.cell? ⟨w.heap.size, 1, none⟩ = some tv := by rw [hwA]; exact kept_alloc2 w _ _ _ _ rfl
 have k2 : ∀ W, Ext wA W → W.cell? ⟨w.heap.size, 2, none⟩ = some lv := by rw [hwA]; exact kept_alloc2 w _ _ _ _ rfl
 have k3 : ∀ W, Ext wA W → W.cell? ⟨w.heap.size, 3, none⟩ = some rv := by rw [hwA]; exact kept_alloc2 w _ _ _ _ rfl
 have m0 : ∀ W, Ext wA W → W.cell? ⟨w.heap.size + 1, 0, none⟩ = some (.int .i64 y.f) := by rw [hwA]; exact kept_alloc2' w _ _ _ _ rfl
 have m1 : ∀ W, Ext wA W → W.cell? ⟨w.heap.size + 1, 1, none⟩ = some tu := by rw [hwA]; exact kept_alloc2' w _ _ _ _ rfl
 have m2 : ∀ W, Ext wA W → W.cell? ⟨w.heap.size + 1, 2, none⟩ = some lu := by rw [hwA]; exact kept_alloc2' w _ _ _ _ rfl
 have m3 : ∀ W, Ext wA W → W.cell? ⟨w.heap.size + 1, 3, none⟩ = some ru := by rw [hwA]; exact kept_alloc2' w _ _ _ _ rfl
 have H0 : Ext wA wA := Ext.refl _
 have HV := Lib.hid (Validate_c tv lv rv x wA (hr.ext hE0))
 have HS := Lib.hid (fun W (hW : Ext wA W) => Validate_c tu lu ru y W (hs.ext (hE0.trans hW)))
 have HW := Lib.hid hwA; clear hwA hr hs
 unfold twoK
 by_cases h0 : validR x = 0
 ·rw [if_pos h0]
  rw [h0] at HV
  clear h0
  generalize validR y = k at *
  go_enter Tryz.func261, Tryz.ntmps261
  go_wp2_with fail
  rw [← HW.out]
  refine HV.out.mono ?_; rintro e w1 ⟨rfl, hx1⟩
  go_wp2_with fail
  refine (HS.out w1 hx1).mono ?_; rintro e w2 ⟨rfl, hx2⟩
  go_wp2_with fail
  go_ret
  exact RV.int rfl (hE0.trans (hx1.trans hx2))
 ·rw [if_neg h0]
  have hk : (validR x != 0) = true := by simp [h0]
  generalize validR x = k at *
  clear h0
  go_enter Tryz.func261, Tryz.ntmps261
  go_wp2_with fail
  rw [← HW.out]
  refine HV.out.mono ?_; rintro e w1 ⟨rfl, hx1⟩
  go_wp2_with fail
  go_ret
  exact RV.int rfl (hE0.trans hx1)
theorem rtwo_c (tv lv rv tu lu ru : Value) (x y : Rul) (w : World) (hr : RulR w tv lv rv x) (hs : RulR w tu lu ru y) : Calls Tryz.prog 270 #[.agg #[.int .i64 x.f, tv, lv, rv], .agg #[.int .i64 y.f, tu, lu, ru]] w (RV (.int .i64 (twoK x y)) w) := by
 obtain ⟨wA, hwA⟩ : ∃ wA, wA = (w.alloc (.cells #[.int .i64 x.f, tv, lv, rv] 70)).alloc (.cells #[.int .i64 y.f, tu, lu, ru] 70) := ⟨_, rfl⟩
 have hE0 : Ext w wA := by rw [hwA]; exact (Ext.alloc _ _).trans (Ext.alloc _ _)
 have k0 : ∀ W, Ext wA W → W.cell? ⟨w.heap.size, 0, none⟩ = some (.int .i64 x.f) := by rw [hwA]; exact kept_alloc2 w _ _ _ _ rfl
 have k1 : ∀ W, Ext wA W → W.cell? ⟨w.heap.size, 1, none⟩ = some tv := by rw [hwA]; exact kept_alloc2 w _ _ _ _ rfl
 have k2 : ∀ W, Ext wA W → W.cell? ⟨w.heap.size, 2, none⟩ = some lv := by rw [hwA]; exact kept_alloc2 w _ _ _ _ rfl
 have k3 : ∀ W, Ext wA W → W.cell? ⟨w.heap.size, 3, none⟩ = some rv := by rw [hwA]; exact kept_alloc2 w _ _ _ _ rfl
 have m0 : ∀ W, Ext wA W → W.cell? ⟨w.heap.size + 1, 0, none⟩ = some (.int .i64 y.f) := by rw [hwA]; exact kept_alloc2' w _ _ _ _ rfl
 have m1 : ∀ W, Ext wA W → W.cell? ⟨w.heap.size + 1, 1, none⟩ = some tu := by rw [hwA]; exact kept_alloc2' w _ _ _ _ rfl
 have m2 : ∀ W, Ext wA W → W.cell? ⟨w.heap.size + 1, 2, none⟩ = some lu := by rw [hwA]; exact kept_alloc2' w _ _ _ _ rfl
 have m3 : ∀ W, Ext wA W → W.cell? ⟨w.heap.size + 1, 3, none⟩ = some ru := by rw [hwA]; exact kept_alloc2' w _ _ _ _ rfl
 have H0 : Ext wA wA := Ext.refl _
 have HV := Lib.hid (rValidate_c tv lv rv x wA (hr.ext hE0))
 have HS := Lib.hid (fun W (hW : Ext wA W) => rValidate_c tu lu ru y W (hs.ext (hE0.trans hW)))
 have HW := Lib.hid hwA; clear hwA hr hs
 unfold twoK
 by_cases h0 : validR x = 0
 ·rw [if_pos h0]
  rw [h0] at HV
  clear h0
  generalize validR y = k at *
  go_enter Tryz.func270, Tryz.ntmps270
  go_wp2_with fail
  rw [← HW.out]
  refine HV.out.mono ?_; rintro e w1 ⟨rfl, hx1⟩
  go_wp2_with fail
  refine (HS.out w1 hx1).mono ?_; rintro e w2 ⟨rfl, hx2⟩
  go_wp2_with fail
  go_ret
  exact RV.int rfl (hE0.trans (hx1.trans hx2))
 ·rw [if_neg h0]
  have hk : (validR x != 0) = true := by simp [h0]
  generalize validR x = k at *
  clear h0
  go_enter Tryz.func270, Tryz.ntmps270
  go_wp2_with fail
  rw [← HW.out]
  refine HV.out.mono ?_; rintro e w1 ⟨rfl, hx1⟩
  go_wp2_with fail
  go_ret
  exact RV.int rfl (hE0.trans hx1)
def andA (a b : Nat → Bool) (k : Nat) (i : Nat) : Value := .bool (a i && (b i || decide (k ≤ i)))
def andC (a b : Nat → Bool) (k : Nat) : Array Value := #[andA a b k 0, andA a b k 1, andA a b k 2, andA a b k 3, andA a b k 4, andA a b k 5, andA a b k 6]
theorem andC_cell (a b : Nat → Bool) {k : Nat} (hk : k < 7) : (andC a b k)[k]? = some (.bool (a k)) := by
 have : k = 0 ∨ k = 1 ∨ k = 2 ∨ k = 3 ∨ k = 4 ∨ k = 5 ∨ k = 6 := by omega
 rcases this with rfl | rfl | rfl | rfl | rfl | rfl | rfl <;> simp [andC, andA]
theorem andC_set (a b : Nat → Bool) {k : Nat} (hk : k < 7) : (andC a b k).setIfInBounds k (.bool (a k && b k)) = andC a b (k + 1) := by
 have : k = 0 ∨ k = 1 ∨ k = 2 ∨ k = 3 ∨ k = 4 ∨ k = 5 ∨ k = 6 := by omega
 rcases this with rfl | rfl | rfl | rfl | rfl | rfl | rfl <;> simp [andC, andA]
theorem andC_zero (a b : Nat → Bool) : andC a b 0 = #[.bool (a 0), .bool (a 1), .bool (a 2), .bool (a 3), .bool (a 4), .bool (a 5), .bool (a 6)] := by simp [andC, andA]
theorem andC_end (a b : Nat → Bool) : andC a b 7 = #[.bool (a 0 && b 0), .bool (a 1 && b 1), .bool (a 2 && b 2), .bool (a 3 && b 3), .bool (a 4 && b 4), .bool (a 5 && b 5), .bool (a 6 && b 6)] := by simp [andC, andA]
set_option maxHeartbeats 2000000 in
set_option maxRecDepth 100000 in
theorem andF_c (a b : Nat → Bool) (w : World) : Calls Tryz.prog 267 #[.agg (andC a b 0), .agg #[.bool (b 0), .bool (b 1), .bool (b 2), .bool (b 3), .bool (b 4), .bool (b 5), .bool (b 6)]] w (RV (.agg (andC a b 7)) w) := by
 obtain ⟨Z, hZ⟩ : ∃ Z : Array Value, Z = #[.bool false, .bool false, .bool false, .bool false, .bool false, .bool false, .bool false] := ⟨_, rfl⟩
 obtain ⟨Y, hY⟩ : ∃ Y : Array Value, Y = #[.bool (b 0), .bool (b 1), .bool (b 2), .bool (b 3), .bool (b 4), .bool (b 5), .bool (b 6)] := ⟨_, rfl⟩
 have hYk : ∀ k, k < 7 → Y[k]? = some (.bool (b k)) := by
  intro k hk
  have : k = 0 ∨ k = 1 ∨ k = 2 ∨ k = 3 ∨ k = 4 ∨ k = 5 ∨ k = 6 := by omega
  rcases this with rfl | rfl | rfl | rfl | rfl | rfl | rfl <;> rw [hY] <;> rfl
 have h1 : BoxS (((w.alloc (.cells (andC a b 0) 216)).alloc (.cells Y 216)).alloc (.cells Z 216)) w.heap.size (andC a b 0) := BoxS.ext (World.alloc_heap_new w _) ((Ext.alloc _ _).trans (Ext.alloc _ _))
 have h2 : BoxS (((w.alloc (.cells (andC a b 0) 216)).alloc (.cells Y 216)).alloc (.cells Z 216)) (w.heap.size + 1) Y := by
  refine BoxS.ext ?_ (Ext.alloc _ _)
  have := World.alloc_heap_new (w.alloc (.cells (andC a b 0) 216)) (.cells Y 216); simpa [BoxS] using this
 have h3 : BoxS (((w.alloc (.cells (andC a b 0) 216)).alloc (.cells Y 216)).alloc (.cells Z 216)) (w.heap.size + 1 + 1) Z := by
  have := World.alloc_heap_new ((w.alloc (.cells (andC a b 0) 216)).alloc (.cells Y 216)) (.cells Z 216); simpa [BoxS] using this
 have hE : Ext w (((w.alloc (.cells (andC a b 0) 216)).alloc (.cells Y 216)).alloc (.cells Z 216)) := ((Ext.alloc _ _).trans (Ext.alloc _ _)).trans (Ext.alloc _ _)
 obtain ⟨w2, hw2⟩ : ∃ w2, w2 = ((w.alloc (.cells (andC a b 0) 216)).alloc (.cells Y 216)).alloc (.cells Z 216) := ⟨_, rfl⟩
 rw [← hw2] at h1 h2 h3 hE
 have HB := Lib.hid (And.intro h1 (And.intro h2 (And.intro h3 hE)))
 have HZ := Lib.hid hZ
 have HYK := Lib.hid hYk
 rw [hZ, hY, andC_zero] at hw2
 have HW2 := Lib.hid hw2
 clear h1 h2 h3 hE hw2 hZ hY hYk
 rw [andC_zero]
 go_enter Tryz.func267, Tryz.ntmps267
 go_wp2_with fail
 rw [← HW2.out]
 clear HW2
 go_loopg [6] 7 (fun m i wr => ∃ k : Nat, k ≤ 7 ∧ 7 ≤ k + m ∧ i = .int .i64 k ∧ Hid (BoxS wr w.heap.size (andC a b k)) ∧ Hid (BoxS wr (w.heap.size + 1) Y) ∧ Hid (BoxS wr (w.heap.size + 1 + 1) Z) ∧ Ext w wr)
 case atStart => exact ⟨0, by omega, by omega, rfl, Lib.hid HB.out.1, Lib.hid HB.out.2.1, Lib.hid HB.out.2.2.1, HB.out.2.2.2⟩
 case round =>
  obtain ⟨k, hk, hk2, rfl, hA, hB, hC, hX⟩ := hrel
  by_cases hlt : k < 7
  ·have hc := hA.out.cell (andC_cell a b hlt)
   have hf := hA.out.frozen k
   have hc2 := hB.out.cell (HYK.out k hlt)
   have hN := hA.out.set (i := k) (.bool (a k && b k))
   rw [andC_set a b hlt] at hN
   have hB2 := hB.out.other (c := w.heap.size) (i := k) (by omega) (.bool (a k && b k))
   have hC2 := hC.out.other (c := w.heap.size) (i := k) (by omega) (.bool (a k && b k))
   have hX2 := hX.setCell (c := w.heap.size) (by omega) k (.bool (a k && b k))
   generalize hak : a k = ak at *
   generalize hbk : b k = bk at *
   cases ak
   ·have HN := Lib.hid (And.intro hN (And.intro hB2 (And.intro hC2 hX2)))
    clear hN hB2 hC2 hX2 hak hbk
    go_wp2_with fail
    go_roundg (gk-1)
    case measure => omega
    case rel => exact ⟨k+1, by omega, by omega, by go_num, Lib.hid HN.out.1, Lib.hid HN.out.2.1, Lib.hid HN.out.2.2.1, HN.out.2.2.2⟩
   ·have HN := Lib.hid (And.intro hN (And.intro hB2 (And.intro hC2 hX2)))
    clear hN hB2 hC2 hX2 hak hbk
    go_wp2_with fail
    go_roundg (gk-1)
    case measure => omega
    case rel => exact ⟨k+1, by omega, by omega, by go_num, Lib.hid HN.out.1, Lib.hid HN.out.2.1, Lib.hid HN.out.2.2.1, HN.out.2.2.2⟩
  ·obtain rfl : k = 7 := by omega
   have hC3 := hC.out
   rw [HZ.out] at hC3
   have hst : (storeCells ⟨w.heap.size + 1 + 1, 0, none⟩ (andC a b 7).toList).run Tryz.prog wr = .ok () (wr.setRow (w.heap.size + 1 + 1) (andC a b 7)) := by
    have := run_storeCells_at Tryz.prog (w.heap.size + 1 + 1) 0 216 (andC a b 7).toList 0 _ wr hC3 (by simp [andC]) (by intro v hv; simp [andC, andA] at hv; rcases hv with rfl | rfl | rfl | rfl | rfl | rfl | rfl <;> rfl)
    simpa [andC] using this
   have hg5 : (wr.setRow (w.heap.size + 1 + 1) (andC a b 7)).heap[w.heap.size + 1 + 1]? = some (.cells (andC a b 7) 216 (0, 0)) := setRow_heap wr (w.heap.size + 1 + 1) _ _ _ _ hC3
   have hx5 : Ext w (wr.setRow (w.heap.size + 1 + 1) (andC a b 7)) := Ext.setRow hX (by omega) _
   have HG5 := Lib.hid hg5; clear hg5 hC3
   go_wp2_with (refine wpList_load_row rfl 216 (.tmp 2) rfl w.heap.size rfl 216 (andC a b 7) (0, 0) _ hA.out Tryz.underlying216 rfl rfl ?_)
   exact bodyPost_ret (v := .agg (andC a b 7)) (results_cell_row rfl _ _ (w.heap.size + 1 + 1) 216 (andC a b 7) (0, 0) _ rfl HG5.out Tryz.underlying216 rfl rfl) rfl ⟨rfl, hx5⟩
theorem and_c (s u : List Int) (w : World) : Calls Tryz.prog 267 #[sideV s, sideV u] w (RV (bothV s u) w) := by
 have h := andF_c (fun i => mayB s ((i : Int) - 1)) (fun i => mayB u ((i : Int) - 1)) w
 rw [andC_zero, andC_end] at h
 exact h
set_option maxHeartbeats 2000000 in
theorem inside_c (va vb : Value) (s u : List Int) (w : World) (ha : Ints w va s) (hb : Ints w vb u) : Calls Tryz.prog 271 #[va, vb] w (RV (.bool (insB s u)) w) := by
 have HA := Lib.hid ha; have HB := Lib.hid hb; clear ha hb
 go_enter Tryz.func271, Tryz.ntmps271
 go_wp2_with fail
 go_loopg [5] 7 (fun m i wr => ∃ (k : Nat) (z : Int), k ≤ 7 ∧ 7 ≤ k + m ∧ z = (k : Int) - 1 ∧ i = .int .i64 z ∧ Ext w wr ∧ Hid (∀ j : Nat, j < k → (!(mayB s ((j : Int) - 1) && !mayB u ((j : Int) - 1))) = true))
 case atStart => exact ⟨0, -1, by omega, by omega, rfl, rfl, Ext.refl _, fun j hj => by omega⟩
 case round =>
  obtain ⟨k, z, hk, hk2, hz, rfl, hB, hE⟩ := hrel
  have hz1 : -1 ≤ z := by omega
  have hz2 : z ≤ 6 := by omega
  by_cases hlt : k < 7
  ·have hz3 : z < 6 := by omega
   have H1 := Lib.hid (rmay_c va s z wr (HA.out.ext hB))
   have H2 := Lib.hid (fun W (hW : Ext wr W) => rmay_c vb u z W (HB.out.ext (hB.trans hW)))
   have HST : Hid ((!(mayB s z && !mayB u z)) = true → ∀ j : Nat, j < k + 1 → (!(mayB s ((j : Int) - 1) && !mayB u ((j : Int) - 1))) = true) := fun h => range_step (f := fun j : Nat => !(mayB s ((j : Int) - 1) && !mayB u ((j : Int) - 1))) hE.out (by rw [← hz]; exact h)
   have HFL : Hid ((!(mayB s z && !mayB u z)) = false → insB s u = false) := fun h => allB_false hlt (by rw [← hz]; exact h)
   generalize mayB s z = b1 at *
   generalize mayB u z = b2 at *
   have HZ := Lib.hid hz; clear hz
   cases b1
   ·have HS2 := Lib.hid (HST.out rfl)
    go_wp2_with fail
    refine H1.out.mono ?_; rintro e w3 ⟨rfl, hx3⟩
    go_wp2_with fail
    go_roundg (gk-1)
    case measure => omega
    case rel => exact ⟨k+1, z+1, by omega, by omega, by have := HZ.out; omega, by go_num, hB.trans hx3, HS2.out⟩
   ·cases b2
    ·have HS2 := Lib.hid (HFL.out rfl)
     go_wp2_with fail
     refine H1.out.mono ?_; rintro e w3 ⟨rfl, hx3⟩
     go_wp2_with fail
     refine (H2.out w3 hx3).mono ?_; rintro e w4 ⟨rfl, hy4⟩
     go_wp2_with fail
     go_ret
     exact RV.bool HS2.out.symm (hB.trans (hx3.trans hy4))
    ·have HS2 := Lib.hid (HST.out rfl)
     go_wp2_with fail
     refine H1.out.mono ?_; rintro e w3 ⟨rfl, hx3⟩
     go_wp2_with fail
     refine (H2.out w3 hx3).mono ?_; rintro e w4 ⟨rfl, hy4⟩
     go_wp2_with fail
     go_roundg (gk-1)
     case measure => omega
     case rel => exact ⟨k+1, z+1, by omega, by omega, by have := HZ.out; omega, by go_num, hB.trans (hx3.trans hy4), HS2.out⟩
  ·obtain rfl : k = 7 := by omega
   have hz3 : ¬ z < 6 := by omega
   have HZ := Lib.hid hz; clear hz
   go_wp2_with fail
   go_ret
   exact RV.bool (allB_true hE.out).symm hB
end Go.Proofs.YtpmlcfgbfhgpgaaGreatDoor
/- Two rules: which is special, which can meet; both packages. -/
namespace Go.Proofs.YtpmlcfgbfhgpgaaGreatDoor
open Go.RowKit Go.Shelf
set_option linter.unusedVariables false
theorem store_side (W : World) (g : Nat) (cs A : Array Value) (hb : BoxS W g cs) (hs : cs.size = 7) (ha : A.size = 7) (h1 : ∀ v ∈ A.toList, v.oneCell' = true) : (storeCells ⟨g, 0, none⟩ A.toList).run Tryz.prog W = .ok () (W.setRow g A) := by
 have := run_storeCells_at Tryz.prog g 0 216 A.toList 0 cs W hb (by simp [hs, ha]) h1
 rw [this]
 have h0 : cs.toList.drop (0 + 0 + A.toList.length) = [] := List.drop_of_length_le (by simp [hs, ha])
 rw [h0]; simp
theorem bothA_one (a b : List Int) : ∀ v ∈ (bothA a b).toList, v.oneCell' = true := by
 intro v hv; simp [bothA] at hv; rcases hv with rfl | rfl | rfl | rfl | rfl | rfl | rfl <;> rfl
theorem BoxS.row {W : World} {g : Nat} {cs : Array Value} (h : BoxS W g cs) (A : Array Value) : BoxS (W.setRow g A) g A := setRow_heap W g _ _ _ _ h
theorem BoxS.rowOther {W : World} {g c : Nat} {cs : Array Value} (h : BoxS W g cs) (hne : c ≠ g) (A : Array Value) : BoxS (W.setRow c A) g cs := (setRow_other W c g A (fun e => hne e.symm)).trans h
set_option maxHeartbeats 2000000 in
set_option maxRecDepth 100000 in
theorem both_c (tv lv rv tu lu ru : Value) (x y : Rul) (w : World) (hr : RulR w tv lv rv x) (hs : RulR w tu lu ru y) : Calls Tryz.prog 262 #[.agg #[.int .i64 x.f, tv, lv, rv], .agg #[.int .i64 y.f, tu, lu, ru]] w (RV (.tuple #[bothV x.l y.l, bothV x.r y.r]) w) := by
 obtain ⟨wA, hwA⟩ : ∃ wA, wA = (w.alloc (.cells #[.int .i64 x.f, tv, lv, rv] 70)).alloc (.cells #[.int .i64 y.f, tu, lu, ru] 70) := ⟨_, rfl⟩
 have hE0 : Ext w wA := by rw [hwA]; exact (Ext.alloc _ _).trans (Ext.alloc _ _)
 have k0 : ∀ W, Ext wA W → W.cell? ⟨w.heap.size, 0, none⟩ = some (.int .i64 x.f) := by rw [hwA]; exact kept_alloc2 w _ _ _ _ rfl
 have k1 : ∀ W, Ext wA W → W.cell? ⟨w.heap.size, 1, none⟩ = some tv := by rw [hwA]; exact kept_alloc2 w _ _ _ _ rfl
 have k2 : ∀ W, Ext wA W → W.cell? ⟨w.heap.size, 2, none⟩ = some lv := by rw [hwA]; exact kept_alloc2 w _ _ _ _ rfl
 have k3 : ∀ W, Ext wA W → W.cell? ⟨w.heap.size, 3, none⟩ = some rv := by rw [hwA]; exact kept_alloc2 w _ _ _ _ rfl
 have m0 : ∀ W, Ext wA W → W.cell? ⟨w.heap.size + 1, 0, none⟩ = some (.int .i64 y.f) := by rw [hwA]; exact kept_alloc2' w _ _ _ _ rfl
 have m1 : ∀ W, Ext wA W → W.cell? ⟨w.heap.size + 1, 1, none⟩ = some tu := by rw [hwA]; exact kept_alloc2' w _ _ _ _ rfl
 have m2 : ∀ W, Ext wA W → W.cell? ⟨w.heap.size + 1, 2, none⟩ = some lu := by rw [hwA]; exact kept_alloc2' w _ _ _ _ rfl
 have m3 : ∀ W, Ext wA W → W.cell? ⟨w.heap.size + 1, 3, none⟩ = some ru := by rw [hwA]; exact kept_alloc2' w _ _ _ _ rfl
 have H0 : Ext wA wA := Ext.refl _
 obtain ⟨Z, hZ⟩ : ∃ Z : Array Value, Z = #[.bool false, .bool false, .bool false, .bool false, .bool false, .bool false, .bool false] := ⟨_, rfl⟩
 have hsA : wA.heap.size = w.heap.size + 1 + 1 := by rw [hwA]; simp
 obtain ⟨wB, hwB⟩ : ∃ wB, wB = (wA.alloc (.cells Z 216)).alloc (.cells Z 216) := ⟨_, rfl⟩
 have hEB : Ext wA wB := by rw [hwB]; exact (Ext.alloc _ _).trans (Ext.alloc _ _)
 have hb1 : BoxS wB (w.heap.size + 1 + 1) Z := by rw [hwB, ← hsA]; exact BoxS.ext (World.alloc_heap_new wA _) (Ext.alloc _ _)
 have hb2 : BoxS wB (w.heap.size + 1 + 1 + 1) Z := by
  rw [hwB, ← hsA]
  have := World.alloc_heap_new (wA.alloc (.cells Z 216)) (.cells Z 216); simpa [BoxS] using this
 rw [hZ] at hwB
 have HX := Lib.hid (hr.ext hE0)
 have HY := Lib.hid (hs.ext hE0)
 have HB1 := Lib.hid hb1; have HB2 := Lib.hid hb2
 have HW := Lib.hid hwA; have HWB := Lib.hid hwB; have HZ := Lib.hid hZ
 have HSA := Lib.hid hsA
 clear hwA hr hs hwB hZ hb1 hb2 hsA
 go_enter Tryz.func262, Tryz.ntmps262
 go_wp2_with fail
 rw [← HW.out, ← HWB.out]
 refine wp_region_peek (Ext wB) (fun _ => True) [14, 15] [.look 0, .look 1, .look 3, .look 4, .look 7, .look 8, .look 10, .look 11, .go 2, .go 5, .go 6, .go 9, .go 12, .go 13, .go 14, .go 15] (by kernel_rfl) (by kernel_rfl) (by intro c a d v w h; cases d <;> exact h) ?_
 have hd : Ext wB { wB with drawn := wB.drawn + 1 } := drawn_ext wB
 have hs : ∀ s : InC (Ext wB), Ext wA s.w := fun s => hEB.trans s.h
 generalize { wB with drawn := wB.drawn + 1 } = W0 at *
 iterate 8 (refine wpPeek_look rfl ‹_› (fun K hK => ?_); go_simp; first | (refine hK _ ?_; clear hK K) | (refine ⟨_, fun _ => rfl, hK _ ?_⟩; clear hK K))
 clear hs k0 k1 k2 k3 m0 m1 m2 m3
 refine wpPeek_go rfl rfl (fun K hK => ?_)
 go_wp2_with fail
 refine (of_c lv x.l W0 (HX.out.l.ext (hEB.trans hd))).mono ?_; rintro e W1 ⟨rfl, hy⟩
 go_wp2_with fail
 refine ⟨KeepE.of (fun h => h.trans hy) (fun _ => trivial), ?_⟩
 replace hd := hd.trans hy
 clear hy
 refine wpPeek_go rfl rfl (fun K hK => ?_)
 go_wp2_with fail
 refine (of_c lu y.l W1 (HY.out.l.ext (hEB.trans hd))).mono ?_; rintro e W2 ⟨rfl, hy⟩
 go_wp2_with fail
 refine ⟨KeepE.of (fun h => h.trans hy) (fun _ => trivial), ?_⟩
 replace hd := hd.trans hy
 clear hy
 refine wpPeek_go rfl rfl (fun K hK => ?_)
 go_wp2_with fail
 refine (and_c x.l y.l W2).mono ?_; rintro e W3 ⟨rfl, hy⟩
 go_wp2_with fail
 refine ⟨KeepE.of (fun h => h.trans hy) (fun _ => trivial), ?_⟩
 replace hd := hd.trans hy
 clear hy
 refine wpPeek_go rfl rfl (fun K hK => ?_)
 go_wp2_with fail
 refine (of_c rv x.r W3 (HX.out.r.ext (hEB.trans hd))).mono ?_; rintro e W4 ⟨rfl, hy⟩
 go_wp2_with fail
 refine ⟨KeepE.of (fun h => h.trans hy) (fun _ => trivial), ?_⟩
 replace hd := hd.trans hy
 clear hy
 refine wpPeek_go rfl rfl (fun K hK => ?_)
 go_wp2_with fail
 refine (of_c ru y.r W4 (HY.out.r.ext (hEB.trans hd))).mono ?_; rintro e W5 ⟨rfl, hy⟩
 go_wp2_with fail
 refine ⟨KeepE.of (fun h => h.trans hy) (fun _ => trivial), ?_⟩
 replace hd := hd.trans hy
 clear hy
 refine wpPeek_go rfl rfl (fun K hK => ?_)
 go_wp2_with fail
 refine (and_c x.r y.r W5).mono ?_; rintro e W6 ⟨rfl, hy⟩
 go_wp2_with fail
 refine ⟨KeepE.of (fun h => h.trans hy) (fun _ => trivial), ?_⟩
 replace hd := hd.trans hy
 clear hy
 have q1 := HB1.out.ext hd
 have q2 := HB2.out.ext hd
 have hst := store_side W6 (w.heap.size + 1 + 1) Z (bothA x.l y.l) q1 (by rw [HZ.out]; rfl) rfl (bothA_one _ _)
 have q3 := q1.row (bothA x.l y.l)
 have q4 := q2.rowOther (c := w.heap.size + 1 + 1) (by omega) (bothA x.l y.l)
 have hx7 : Ext w (W6.setRow (w.heap.size + 1 + 1) (bothA x.l y.l)) := Ext.setRow (hE0.trans (hEB.trans hd)) (by omega) _
 have HQ := Lib.hid (And.intro q3 (And.intro q4 hx7))
 clear q1 q2 q3 q4 hx7
 unfold bothV
 refine wpPeek_go rfl rfl (fun K hK => ?_)
 go_wp2_with fail
 refine ⟨⟨.inl (by simp), fun _ => trivial⟩, ?_⟩
 clear hst
 generalize W6.setRow (w.heap.size + 1 + 1) (bothA x.l y.l) = W7 at *
 have hst := store_side W7 (w.heap.size + 1 + 1 + 1) Z (bothA x.r y.r) HQ.out.2.1 (by rw [HZ.out]; rfl) rfl (bothA_one _ _)
 have q3 := HQ.out.2.1.row (bothA x.r y.r)
 have q4 := HQ.out.1.rowOther (c := w.heap.size + 1 + 1 + 1) (by omega) (bothA x.r y.r)
 have hx8 : Ext w (W7.setRow (w.heap.size + 1 + 1 + 1) (bothA x.r y.r)) := Ext.setRow HQ.out.2.2 (by omega) _
 have HQ8 := Lib.hid (And.intro q4 (And.intro q3 hx8))
 clear q3 q4 hx8
 refine wpPeek_go rfl rfl (fun K hK => ?_)
 go_wp2_with fail
 refine ⟨⟨.inl (by simp), fun _ => trivial⟩, ?_⟩
 clear hst
 generalize W7.setRow (w.heap.size + 1 + 1 + 1) (bothA x.r y.r) = W8 at *
 refine wpPeek_nil ?_
 go_wp2_with fail
 have c0 := HQ8.out.1.cell (i := 0) (v := .bool (bothB x.l y.l (-1))) rfl
 have c1 := HQ8.out.1.cell (i := 1) (v := .bool (bothB x.l y.l 0)) rfl
 have c2 := HQ8.out.1.cell (i := 2) (v := .bool (bothB x.l y.l 1)) rfl
 have c3 := HQ8.out.1.cell (i := 3) (v := .bool (bothB x.l y.l 2)) rfl
 have c4 := HQ8.out.1.cell (i := 4) (v := .bool (bothB x.l y.l 3)) rfl
 have c5 := HQ8.out.1.cell (i := 5) (v := .bool (bothB x.l y.l 4)) rfl
 have c6 := HQ8.out.1.cell (i := 6) (v := .bool (bothB x.l y.l 5)) rfl
 have c0' := HQ8.out.2.1.cell (i := 0) (v := .bool (bothB x.r y.r (-1))) rfl
 have c1' := HQ8.out.2.1.cell (i := 1) (v := .bool (bothB x.r y.r 0)) rfl
 have c2' := HQ8.out.2.1.cell (i := 2) (v := .bool (bothB x.r y.r 1)) rfl
 have c3' := HQ8.out.2.1.cell (i := 3) (v := .bool (bothB x.r y.r 2)) rfl
 have c4' := HQ8.out.2.1.cell (i := 4) (v := .bool (bothB x.r y.r 3)) rfl
 have c5' := HQ8.out.2.1.cell (i := 5) (v := .bool (bothB x.r y.r 4)) rfl
 have c6' := HQ8.out.2.1.cell (i := 6) (v := .bool (bothB x.r y.r 5)) rfl
 unfold bothA
 refine bodyPost_ret (v := .tuple #[.agg #[.bool (bothB x.l y.l (-1)), .bool (bothB x.l y.l 0), .bool (bothB x.l y.l 1), .bool (bothB x.l y.l 2), .bool (bothB x.l y.l 3), .bool (bothB x.l y.l 4), .bool (bothB x.l y.l 5)], .agg #[.bool (bothB x.r y.r (-1)), .bool (bothB x.r y.r 0), .bool (bothB x.r y.r 1), .bool (bothB x.r y.r 2), .bool (bothB x.r y.r 3), .bool (bothB x.r y.r 4), .bool (bothB x.r y.r 5)]]) ?_ rfl ⟨rfl, HQ8.out.2.2⟩
 simp [results, Tryz.results262, go_sem, c0, c1, c2, c3, c4, c5, c6, c0', c1', c2', c3', c4', c5', c6']
def specB (x y : Rul) : Bool := x.f == y.f && (insB x.l y.l && insB x.r y.r)
def spec (x y : Rul) : Bool := if twoK x y = 0 then specB x y else false
theorem and_eq_self (m n : Bool) : ((m && n) == m) = !(m && !n) := by cases m <;> cases n <;> rfl
theorem ins_eq (a b : List Int) : insB a b = (bothB a b (-1) == mayB a (-1) && (bothB a b 0 == mayB a 0 && (bothB a b 1 == mayB a 1 && (bothB a b 2 == mayB a 2 && (bothB a b 3 == mayB a 3 && (bothB a b 4 == mayB a 4 && bothB a b 5 == mayB a 5)))))) := by
 rw [insB, allB7]
 simp only [bothB, and_eq_self]
 rfl
set_option maxHeartbeats 2000000 in
set_option maxRecDepth 100000 in
theorem IsSpecial_c (tv lv rv tu lu ru : Value) (x y : Rul) (w : World) (hr : RulR w tv lv rv x) (hs : RulR w tu lu ru y) : Calls Tryz.prog 249 #[.agg #[.int .i64 x.f, tv, lv, rv], .agg #[.int .i64 y.f, tu, lu, ru]] w (RV (.tuple #[.bool (spec x y), .int .i64 (twoK x y)]) w) := by
 obtain ⟨wA, hwA⟩ : ∃ wA, wA = (w.alloc (.cells #[.int .i64 x.f, tv, lv, rv] 70)).alloc (.cells #[.int .i64 y.f, tu, lu, ru] 70) := ⟨_, rfl⟩
 have hE0 : Ext w wA := by rw [hwA]; exact (Ext.alloc _ _).trans (Ext.alloc _ _)
 have k0 : ∀ W, Ext wA W → W.cell? ⟨w.heap.size, 0, none⟩ = some (.int .i64 x.f) := by rw [hwA]; exact kept_alloc2 w _ _ _ _ rfl
 have k1 : ∀ W, Ext wA W → W.cell? ⟨w.heap.size, 1, none⟩ = some tv := by rw [hwA]; exact kept_alloc2 w _ _ _ _ rfl
 have k2 : ∀ W, Ext wA W → W.cell? ⟨w.heap.size, 2, none⟩ = some lv := by rw [hwA]; exact kept_alloc2 w _ _ _ _ rfl
 have k3 : ∀ W, Ext wA W → W.cell? ⟨w.heap.size, 3, none⟩ = some rv := by rw [hwA]; exact kept_alloc2 w _ _ _ _ rfl
 have m0 : ∀ W, Ext wA W → W.cell? ⟨w.heap.size + 1, 0, none⟩ = some (.int .i64 y.f) := by rw [hwA]; exact kept_alloc2' w _ _ _ _ rfl
 have m1 : ∀ W, Ext wA W → W.cell? ⟨w.heap.size + 1, 1, none⟩ = some tu := by rw [hwA]; exact kept_alloc2' w _ _ _ _ rfl
 have m2 : ∀ W, Ext wA W → W.cell? ⟨w.heap.size + 1, 2, none⟩ = some lu := by rw [hwA]; exact kept_alloc2' w _ _ _ _ rfl
 have m3 : ∀ W, Ext wA W → W.cell? ⟨w.heap.size + 1, 3, none⟩ = some ru := by rw [hwA]; exact kept_alloc2' w _ _ _ _ rfl
 have H0 : Ext wA wA := Ext.refl _
 have HX := Lib.hid (hr.ext hE0)
 have HY := Lib.hid (hs.ext hE0)
 have HT := Lib.hid (two_c tv lv rv tu lu ru x y wA HX.out HY.out)
 have HW := Lib.hid hwA
 clear hwA hr hs
 unfold spec
 by_cases h0 : twoK x y = 0
 ·rw [if_pos h0]
  rw [h0] at HT ⊢
  clear h0
  have HOL := fun W (hW : Ext wA W) => of_c lv x.l W (HX.out.l.ext hW)
  have HOR := fun W (hW : Ext wA W) => of_c rv x.r W (HX.out.r.ext hW)
  have HBO := Lib.hid (fun W (hW : Ext wA W) => both_c tv lv rv tu lu ru x y W (HX.out.ext hW) (HY.out.ext hW))
  have hsp : specB x y = (x.f == y.f && (insB x.l y.l && insB x.r y.r)) := rfl
  rw [ins_eq, ins_eq] at hsp
  unfold sideV at HOL HOR
  unfold bothV bothA at HBO
  have HOL := Lib.hid HOL
  have HOR := Lib.hid HOR
  generalize bothB x.l y.l (-1) = p0 at *
  generalize mayB x.l (-1) = u0 at *
  generalize bothB x.l y.l 0 = p1 at *
  generalize mayB x.l 0 = u1 at *
  generalize bothB x.l y.l 1 = p2 at *
  generalize mayB x.l 1 = u2 at *
  generalize bothB x.l y.l 2 = p3 at *
  generalize mayB x.l 2 = u3 at *
  generalize bothB x.l y.l 3 = p4 at *
  generalize mayB x.l 3 = u4 at *
  generalize bothB x.l y.l 4 = p5 at *
  generalize mayB x.l 4 = u5 at *
  generalize bothB x.l y.l 5 = p6 at *
  generalize mayB x.l 5 = u6 at *
  generalize bothB x.r y.r (-1) = q0 at *
  generalize mayB x.r (-1) = n0 at *
  generalize bothB x.r y.r 0 = q1 at *
  generalize mayB x.r 0 = n1 at *
  generalize bothB x.r y.r 1 = q2 at *
  generalize mayB x.r 1 = n2 at *
  generalize bothB x.r y.r 2 = q3 at *
  generalize mayB x.r 2 = n3 at *
  generalize bothB x.r y.r 3 = q4 at *
  generalize mayB x.r 3 = n4 at *
  generalize bothB x.r y.r 4 = q5 at *
  generalize mayB x.r 4 = n5 at *
  generalize bothB x.r y.r 5 = q6 at *
  generalize mayB x.r 5 = n6 at *
  have hql := fun W => run_eql_side W p0 p1 p2 p3 p4 p5 p6 u0 u1 u2 u3 u4 u5 u6
  have hqr := fun W => run_eql_side W q0 q1 q2 q3 q4 q5 q6 n0 n1 n2 n3 n4 n5 n6
  have HSP := Lib.hid hsp; clear hsp
  generalize (p0 == u0 && (p1 == u1 && (p2 == u2 && (p3 == u3 && (p4 == u4 && (p5 == u5 && p6 == u6)))))) = E1 at *
  generalize (q0 == n0 && (q1 == n1 && (q2 == n2 && (q3 == n3 && (q4 == n4 && (q5 == n5 && q6 == n6)))))) = E2 at *
  generalize specB x y = SB at *
  cases hbf : (x.f == y.f)
  ·rw [hbf] at HSP
   go_enter Tryz.func249, Tryz.ntmps249
   go_wp2_with fail
   rw [← HW.out]
   refine HT.out.mono ?_; rintro e w1 ⟨rfl, hx1⟩
   go_wp2_with fail
   refine (HBO.out w1 hx1).mono ?_; rintro e w2 ⟨rfl, hy2⟩
   have hx2 := hx1.trans hy2
   clear hx1 hy2
   go_wp2_with fail
   obtain ⟨w4, hw4⟩ : ∃ w4, w4 = (w2.alloc (.cells #[.bool p0, .bool p1, .bool p2, .bool p3, .bool p4, .bool p5, .bool p6] 216)).alloc (.cells #[.bool q0, .bool q1, .bool q2, .bool q3, .bool q4, .bool q5, .bool q6] 216) := ⟨_, rfl⟩
   have hE4 : Ext w2 w4 := by rw [hw4]; exact (Ext.alloc _ _).trans (Ext.alloc _ _)
   have c0 : ∀ W, Ext w4 W → W.cell? ⟨w2.heap.size, 0, none⟩ = some (.bool p0) := by rw [hw4]; exact kept_alloc2 w2 _ _ _ _ rfl
   have c1 : ∀ W, Ext w4 W → W.cell? ⟨w2.heap.size, 1, none⟩ = some (.bool p1) := by rw [hw4]; exact kept_alloc2 w2 _ _ _ _ rfl
   have c2 : ∀ W, Ext w4 W → W.cell? ⟨w2.heap.size, 2, none⟩ = some (.bool p2) := by rw [hw4]; exact kept_alloc2 w2 _ _ _ _ rfl
   have c3 : ∀ W, Ext w4 W → W.cell? ⟨w2.heap.size, 3, none⟩ = some (.bool p3) := by rw [hw4]; exact kept_alloc2 w2 _ _ _ _ rfl
   have c4 : ∀ W, Ext w4 W → W.cell? ⟨w2.heap.size, 4, none⟩ = some (.bool p4) := by rw [hw4]; exact kept_alloc2 w2 _ _ _ _ rfl
   have c5 : ∀ W, Ext w4 W → W.cell? ⟨w2.heap.size, 5, none⟩ = some (.bool p5) := by rw [hw4]; exact kept_alloc2 w2 _ _ _ _ rfl
   have c6 : ∀ W, Ext w4 W → W.cell? ⟨w2.heap.size, 6, none⟩ = some (.bool p6) := by rw [hw4]; exact kept_alloc2 w2 _ _ _ _ rfl
   have d0 : ∀ W, Ext w4 W → W.cell? ⟨w2.heap.size + 1, 0, none⟩ = some (.bool q0) := by rw [hw4]; exact kept_alloc2' w2 _ _ _ _ rfl
   have d1 : ∀ W, Ext w4 W → W.cell? ⟨w2.heap.size + 1, 1, none⟩ = some (.bool q1) := by rw [hw4]; exact kept_alloc2' w2 _ _ _ _ rfl
   have d2 : ∀ W, Ext w4 W → W.cell? ⟨w2.heap.size + 1, 2, none⟩ = some (.bool q2) := by rw [hw4]; exact kept_alloc2' w2 _ _ _ _ rfl
   have d3 : ∀ W, Ext w4 W → W.cell? ⟨w2.heap.size + 1, 3, none⟩ = some (.bool q3) := by rw [hw4]; exact kept_alloc2' w2 _ _ _ _ rfl
   have d4 : ∀ W, Ext w4 W → W.cell? ⟨w2.heap.size + 1, 4, none⟩ = some (.bool q4) := by rw [hw4]; exact kept_alloc2' w2 _ _ _ _ rfl
   have d5 : ∀ W, Ext w4 W → W.cell? ⟨w2.heap.size + 1, 5, none⟩ = some (.bool q5) := by rw [hw4]; exact kept_alloc2' w2 _ _ _ _ rfl
   have d6 : ∀ W, Ext w4 W → W.cell? ⟨w2.heap.size + 1, 6, none⟩ = some (.bool q6) := by rw [hw4]; exact kept_alloc2' w2 _ _ _ _ rfl
   rw [← hw4]
   clear hw4
   have hx4 := hx2.trans hE4
   clear hx2 hE4
   have hs : ∀ s : Later w4, Ext wA s.w := fun s => hx4.trans s.ext
   have hs4 : ∀ s : Later w4, Ext w4 s.w := fun s => s.ext
   refine wp_region_later (by kernel_rfl) (by kernel_rfl) ?_
   repeat (go_big_quiet_step (first | (go_at_call 156; first | with_reducible exact Later.call (HOL.out _ (hs _)) | with_reducible exact Later.call (HOR.out _ (hs _)))))
   refine wpQuiet_nil ?_
   intro w5 hw'
   obtain ⟨⟨_, hx5⟩, rfl⟩ := hw'
   clear hs hs4
   go_wp2_with fail
   go_ret2
   exact RV.mk (by rw [HSP.out]; rfl) (hE0.trans (hx4.trans hx5))
  ·rw [hbf] at HSP
   cases E1
   ·go_enter Tryz.func249, Tryz.ntmps249
    go_wp2_with fail
    rw [← HW.out]
    refine HT.out.mono ?_; rintro e w1 ⟨rfl, hx1⟩
    go_wp2_with fail
    refine (HBO.out w1 hx1).mono ?_; rintro e w2 ⟨rfl, hy2⟩
    have hx2 := hx1.trans hy2
    clear hx1 hy2
    go_wp2_with fail
    obtain ⟨w4, hw4⟩ : ∃ w4, w4 = (w2.alloc (.cells #[.bool p0, .bool p1, .bool p2, .bool p3, .bool p4, .bool p5, .bool p6] 216)).alloc (.cells #[.bool q0, .bool q1, .bool q2, .bool q3, .bool q4, .bool q5, .bool q6] 216) := ⟨_, rfl⟩
    have hE4 : Ext w2 w4 := by rw [hw4]; exact (Ext.alloc _ _).trans (Ext.alloc _ _)
    have c0 : ∀ W, Ext w4 W → W.cell? ⟨w2.heap.size, 0, none⟩ = some (.bool p0) := by rw [hw4]; exact kept_alloc2 w2 _ _ _ _ rfl
    have c1 : ∀ W, Ext w4 W → W.cell? ⟨w2.heap.size, 1, none⟩ = some (.bool p1) := by rw [hw4]; exact kept_alloc2 w2 _ _ _ _ rfl
    have c2 : ∀ W, Ext w4 W → W.cell? ⟨w2.heap.size, 2, none⟩ = some (.bool p2) := by rw [hw4]; exact kept_alloc2 w2 _ _ _ _ rfl
    have c3 : ∀ W, Ext w4 W → W.cell? ⟨w2.heap.size, 3, none⟩ = some (.bool p3) := by rw [hw4]; exact kept_alloc2 w2 _ _ _ _ rfl
    have c4 : ∀ W, Ext w4 W → W.cell? ⟨w2.heap.size, 4, none⟩ = some (.bool p4) := by rw [hw4]; exact kept_alloc2 w2 _ _ _ _ rfl
    have c5 : ∀ W, Ext w4 W → W.cell? ⟨w2.heap.size, 5, none⟩ = some (.bool p5) := by rw [hw4]; exact kept_alloc2 w2 _ _ _ _ rfl
    have c6 : ∀ W, Ext w4 W → W.cell? ⟨w2.heap.size, 6, none⟩ = some (.bool p6) := by rw [hw4]; exact kept_alloc2 w2 _ _ _ _ rfl
    have d0 : ∀ W, Ext w4 W → W.cell? ⟨w2.heap.size + 1, 0, none⟩ = some (.bool q0) := by rw [hw4]; exact kept_alloc2' w2 _ _ _ _ rfl
    have d1 : ∀ W, Ext w4 W → W.cell? ⟨w2.heap.size + 1, 1, none⟩ = some (.bool q1) := by rw [hw4]; exact kept_alloc2' w2 _ _ _ _ rfl
    have d2 : ∀ W, Ext w4 W → W.cell? ⟨w2.heap.size + 1, 2, none⟩ = some (.bool q2) := by rw [hw4]; exact kept_alloc2' w2 _ _ _ _ rfl
    have d3 : ∀ W, Ext w4 W → W.cell? ⟨w2.heap.size + 1, 3, none⟩ = some (.bool q3) := by rw [hw4]; exact kept_alloc2' w2 _ _ _ _ rfl
    have d4 : ∀ W, Ext w4 W → W.cell? ⟨w2.heap.size + 1, 4, none⟩ = some (.bool q4) := by rw [hw4]; exact kept_alloc2' w2 _ _ _ _ rfl
    have d5 : ∀ W, Ext w4 W → W.cell? ⟨w2.heap.size + 1, 5, none⟩ = some (.bool q5) := by rw [hw4]; exact kept_alloc2' w2 _ _ _ _ rfl
    have d6 : ∀ W, Ext w4 W → W.cell? ⟨w2.heap.size + 1, 6, none⟩ = some (.bool q6) := by rw [hw4]; exact kept_alloc2' w2 _ _ _ _ rfl
    rw [← hw4]
    clear hw4
    have hx4 := hx2.trans hE4
    clear hx2 hE4
    have hs : ∀ s : Later w4, Ext wA s.w := fun s => hx4.trans s.ext
    have hs4 : ∀ s : Later w4, Ext w4 s.w := fun s => s.ext
    refine wp_region_later (by kernel_rfl) (by kernel_rfl) ?_
    repeat (go_big_quiet_step (first | (go_at_call 156; first | with_reducible exact Later.call (HOL.out _ (hs _)) | with_reducible exact Later.call (HOR.out _ (hs _)))))
    refine wpQuiet_nil ?_
    intro w5 hw'
    obtain ⟨⟨_, hx5⟩, rfl⟩ := hw'
    clear hs hs4
    go_wp2_with fail
    go_ret2
    exact RV.mk (by rw [HSP.out]; rfl) (hE0.trans (hx4.trans hx5))
   ·go_enter Tryz.func249, Tryz.ntmps249
    go_wp2_with fail
    rw [← HW.out]
    refine HT.out.mono ?_; rintro e w1 ⟨rfl, hx1⟩
    go_wp2_with fail
    refine (HBO.out w1 hx1).mono ?_; rintro e w2 ⟨rfl, hy2⟩
    have hx2 := hx1.trans hy2
    clear hx1 hy2
    go_wp2_with fail
    obtain ⟨w4, hw4⟩ : ∃ w4, w4 = (w2.alloc (.cells #[.bool p0, .bool p1, .bool p2, .bool p3, .bool p4, .bool p5, .bool p6] 216)).alloc (.cells #[.bool q0, .bool q1, .bool q2, .bool q3, .bool q4, .bool q5, .bool q6] 216) := ⟨_, rfl⟩
    have hE4 : Ext w2 w4 := by rw [hw4]; exact (Ext.alloc _ _).trans (Ext.alloc _ _)
    have c0 : ∀ W, Ext w4 W → W.cell? ⟨w2.heap.size, 0, none⟩ = some (.bool p0) := by rw [hw4]; exact kept_alloc2 w2 _ _ _ _ rfl
    have c1 : ∀ W, Ext w4 W → W.cell? ⟨w2.heap.size, 1, none⟩ = some (.bool p1) := by rw [hw4]; exact kept_alloc2 w2 _ _ _ _ rfl
    have c2 : ∀ W, Ext w4 W → W.cell? ⟨w2.heap.size, 2, none⟩ = some (.bool p2) := by rw [hw4]; exact kept_alloc2 w2 _ _ _ _ rfl
    have c3 : ∀ W, Ext w4 W → W.cell? ⟨w2.heap.size, 3, none⟩ = some (.bool p3) := by rw [hw4]; exact kept_alloc2 w2 _ _ _ _ rfl
    have c4 : ∀ W, Ext w4 W → W.cell? ⟨w2.heap.size, 4, none⟩ = some (.bool p4) := by rw [hw4]; exact kept_alloc2 w2 _ _ _ _ rfl
    have c5 : ∀ W, Ext w4 W → W.cell? ⟨w2.heap.size, 5, none⟩ = some (.bool p5) := by rw [hw4]; exact kept_alloc2 w2 _ _ _ _ rfl
    have c6 : ∀ W, Ext w4 W → W.cell? ⟨w2.heap.size, 6, none⟩ = some (.bool p6) := by rw [hw4]; exact kept_alloc2 w2 _ _ _ _ rfl
    have d0 : ∀ W, Ext w4 W → W.cell? ⟨w2.heap.size + 1, 0, none⟩ = some (.bool q0) := by rw [hw4]; exact kept_alloc2' w2 _ _ _ _ rfl
    have d1 : ∀ W, Ext w4 W → W.cell? ⟨w2.heap.size + 1, 1, none⟩ = some (.bool q1) := by rw [hw4]; exact kept_alloc2' w2 _ _ _ _ rfl
    have d2 : ∀ W, Ext w4 W → W.cell? ⟨w2.heap.size + 1, 2, none⟩ = some (.bool q2) := by rw [hw4]; exact kept_alloc2' w2 _ _ _ _ rfl
    have d3 : ∀ W, Ext w4 W → W.cell? ⟨w2.heap.size + 1, 3, none⟩ = some (.bool q3) := by rw [hw4]; exact kept_alloc2' w2 _ _ _ _ rfl
    have d4 : ∀ W, Ext w4 W → W.cell? ⟨w2.heap.size + 1, 4, none⟩ = some (.bool q4) := by rw [hw4]; exact kept_alloc2' w2 _ _ _ _ rfl
    have d5 : ∀ W, Ext w4 W → W.cell? ⟨w2.heap.size + 1, 5, none⟩ = some (.bool q5) := by rw [hw4]; exact kept_alloc2' w2 _ _ _ _ rfl
    have d6 : ∀ W, Ext w4 W → W.cell? ⟨w2.heap.size + 1, 6, none⟩ = some (.bool q6) := by rw [hw4]; exact kept_alloc2' w2 _ _ _ _ rfl
    rw [← hw4]
    clear hw4
    have hx4 := hx2.trans hE4
    clear hx2 hE4
    have hs : ∀ s : Later w4, Ext wA s.w := fun s => hx4.trans s.ext
    have hs4 : ∀ s : Later w4, Ext w4 s.w := fun s => s.ext
    refine wp_region_later (by kernel_rfl) (by kernel_rfl) ?_
    repeat (go_big_quiet_step (first | (go_at_call 156; first | with_reducible exact Later.call (HOL.out _ (hs _)) | with_reducible exact Later.call (HOR.out _ (hs _)))))
    refine wpQuiet_nil ?_
    intro w5 hw'
    obtain ⟨⟨_, hx5⟩, rfl⟩ := hw'
    clear hs hs4
    go_wp2_with fail
    go_ret2
    exact RV.mk (by rw [HSP.out]; rfl) (hE0.trans (hx4.trans hx5))
 ·rw [if_neg h0]
  have hk : (twoK x y != 0) = true := by simp [h0]
  generalize twoK x y = k at *
  clear h0
  go_enter Tryz.func249, Tryz.ntmps249
  go_wp2_with fail
  rw [← HW.out]
  refine HT.out.mono ?_; rintro e w1 ⟨rfl, hx1⟩
  go_wp2_with fail
  go_ret2
  exact RV.mk rfl (hE0.trans hx1)
end Go.Proofs.YtpmlcfgbfhgpgaaGreatDoor
/- Two rules: the reference's special; which can meet, and the neighbors of both; both packages. -/
namespace Go.Proofs.YtpmlcfgbfhgpgaaGreatDoor
open Go.RowKit Go.Shelf
set_option linter.unusedVariables false
set_option maxHeartbeats 2000000 in
set_option maxRecDepth 100000 in
theorem rIsSpecial_c (tv lv rv tu lu ru : Value) (x y : Rul) (w : World) (hr : RulR w tv lv rv x) (hs : RulR w tu lu ru y) : Calls Tryz.prog 268 #[.agg #[.int .i64 x.f, tv, lv, rv], .agg #[.int .i64 y.f, tu, lu, ru]] w (RV (.tuple #[.bool (spec x y), .int .i64 (twoK x y)]) w) := by
 obtain ⟨wA, hwA⟩ : ∃ wA, wA = (w.alloc (.cells #[.int .i64 x.f, tv, lv, rv] 70)).alloc (.cells #[.int .i64 y.f, tu, lu, ru] 70) := ⟨_, rfl⟩
 have hE0 : Ext w wA := by rw [hwA]; exact (Ext.alloc _ _).trans (Ext.alloc _ _)
 have k0 : ∀ W, Ext wA W → W.cell? ⟨w.heap.size, 0, none⟩ = some (.int .i64 x.f) := by rw [hwA]; exact kept_alloc2 w _ _ _ _ rfl
 have k1 : ∀ W, Ext wA W → W.cell? ⟨w.heap.size, 1, none⟩ = some tv := by rw [hwA]; exact kept_alloc2 w _ _ _ _ rfl
 have k2 : ∀ W, Ext wA W → W.cell? ⟨w.heap.size, 2, none⟩ = some lv := by rw [hwA]; exact kept_alloc2 w _ _ _ _ rfl
 have k3 : ∀ W, Ext wA W → W.cell? ⟨w.heap.size, 3, none⟩ = some rv := by rw [hwA]; exact kept_alloc2 w _ _ _ _ rfl
 have m0 : ∀ W, Ext wA W → W.cell? ⟨w.heap.size + 1, 0, none⟩ = some (.int .i64 y.f) := by rw [hwA]; exact kept_alloc2' w _ _ _ _ rfl
 have m1 : ∀ W, Ext wA W → W.cell? ⟨w.heap.size + 1, 1, none⟩ = some tu := by rw [hwA]; exact kept_alloc2' w _ _ _ _ rfl
 have m2 : ∀ W, Ext wA W → W.cell? ⟨w.heap.size + 1, 2, none⟩ = some lu := by rw [hwA]; exact kept_alloc2' w _ _ _ _ rfl
 have m3 : ∀ W, Ext wA W → W.cell? ⟨w.heap.size + 1, 3, none⟩ = some ru := by rw [hwA]; exact kept_alloc2' w _ _ _ _ rfl
 have H0 : Ext wA wA := Ext.refl _
 have HX := Lib.hid (hr.ext hE0)
 have HY := Lib.hid (hs.ext hE0)
 have HT := Lib.hid (rtwo_c tv lv rv tu lu ru x y wA HX.out HY.out)
 have HW := Lib.hid hwA
 clear hwA hr hs
 unfold spec
 by_cases h0 : twoK x y = 0
 ·rw [if_pos h0]
  rw [h0] at HT ⊢
  clear h0
  have HIL := Lib.hid (fun W (hW : Ext wA W) => inside_c lv lu x.l y.l W (HX.out.l.ext hW) (HY.out.l.ext hW))
  have HIR := Lib.hid (fun W (hW : Ext wA W) => inside_c rv ru x.r y.r W (HX.out.r.ext hW) (HY.out.r.ext hW))
  have hsp : specB x y = (x.f == y.f && (insB x.l y.l && insB x.r y.r)) := rfl
  have HSP := Lib.hid hsp; clear hsp
  generalize insB x.l y.l = E1 at *
  generalize insB x.r y.r = E2 at *
  generalize specB x y = SB at *
  cases hbf : (x.f == y.f)
  ·rw [hbf] at HSP
   go_enter Tryz.func268, Tryz.ntmps268
   go_wp2_with fail
   rw [← HW.out]
   refine HT.out.mono ?_; rintro e w1 ⟨rfl, hx1⟩
   go_wp2_with fail
   go_ret2
   exact RV.mk (by rw [HSP.out]; rfl) (hE0.trans hx1)
  ·rw [hbf] at HSP
   cases E1
   ·go_enter Tryz.func268, Tryz.ntmps268
    go_wp2_with fail
    rw [← HW.out]
    refine HT.out.mono ?_; rintro e w1 ⟨rfl, hx1⟩
    go_wp2_with fail
    refine (HIL.out w1 hx1).mono ?_; rintro e w2 ⟨rfl, hx2⟩
    have hx12 := hx1.trans hx2
    go_wp2_with fail
    go_ret2
    exact RV.mk (by rw [HSP.out]; rfl) (hE0.trans (hx1.trans hx2))
   ·go_enter Tryz.func268, Tryz.ntmps268
    go_wp2_with fail
    rw [← HW.out]
    refine HT.out.mono ?_; rintro e w1 ⟨rfl, hx1⟩
    go_wp2_with fail
    refine (HIL.out w1 hx1).mono ?_; rintro e w2 ⟨rfl, hx2⟩
    have hx12 := hx1.trans hx2
    go_wp2_with fail
    refine (HIR.out w2 (hx1.trans hx2)).mono ?_; rintro e w3 ⟨rfl, hx3⟩
    go_wp2_with fail
    go_ret2
    exact RV.mk (by rw [HSP.out]; rfl) (hE0.trans (hx1.trans (hx2.trans hx3)))
 ·rw [if_neg h0]
  have hk : (twoK x y != 0) = true := by simp [h0]
  generalize twoK x y = k at *
  clear h0
  go_enter Tryz.func268, Tryz.ntmps268
  go_wp2_with fail
  rw [← HW.out]
  refine HT.out.mono ?_; rintro e w1 ⟨rfl, hx1⟩
  go_wp2_with fail
  go_ret2
  exact RV.mk rfl (hE0.trans hx1)
def meetB (x y : Rul) : Bool := x.f == y.f && (!((comL x.l y.l).length == 0) && !((comL x.r y.r).length == 0))
def meet (x y : Rul) : Bool := if twoK x y = 0 then meetB x y else false
def R4 (l1 l2 : List Int) (b : Bool) (k : Int) (w : World) (e : Ending) (w' : World) : Prop := ∃ v1 v2, e = .returned (.tuple #[v1, v2, .bool b, .int .i64 k]) ∧ OInts 3 w' w.heap.size v1 l1 ∧ OInts 3 w' w.heap.size v2 l2 ∧ Ext w w'
end Go.Proofs.YtpmlcfgbfhgpgaaGreatDoor
/- Steps of a word by rules, grounds, and the winner: plain. -/
namespace Go.Proofs.YtpmlcfgbfhgpgaaGreatDoor
open Go.RowKit
set_option linter.unusedVariables false
def rulAt (s : List Rul) (k : Nat) : Rul := s[k]?.getD ⟨0, [], [], []⟩
abbrev Stp : Type := Nat × Int
def movesAt (x : Rul) (k : Nat) (w : List Int) : List Stp := (sel (w.length + 1) fun i => applyK x w i == 0).map fun p => (k, p)
def movesTo (s : List Rul) (w : List Int) (n : Nat) : List Stp := (List.range n).flatMap fun k => movesAt (rulAt s k) k w
def movesL (s : List Rul) (w : List Int) : List Stp := movesTo s w s.length
def shiftP (y : Rul) (a b : Stp) : Int := if b.2 < a.2 then (if 0 ≤ y.f then a.2 + y.t.length - 1 else a.2 + y.t.length) else a.2
def lastsB (s : List Rul) (w : List Int) (a b : Stp) : Bool := applyK (rulAt s a.1) (applyL (rulAt s b.1) w b.2) (shiftP (rulAt s b.1) a b) == 0
def proB (s : List Rul) (w : List Int) (g : Int) (a b : Stp) : Bool :=
 if g = 1 then a.2 == b.2 && (spec (rulAt s a.1) (rulAt s b.1) && !spec (rulAt s b.1) (rulAt s a.1))
 else if g = 2 then lastsB s w a b && !lastsB s w b a
 else if g = 3 then decide (a.2 < b.2) else decide (b.1 < a.1)
def decZ (s : List Rul) (w : List Int) (g : Int) (a b : Stp) : Int := if proB s w g a b then 1 else if proB s w g b a then -1 else 0
def beatsZ (s : List Rul) (w : List Int) : List Int → Stp → Stp → Int
 | [], _, _ => 0
 | g :: gs, a, b => if decZ s w g a b = 0 then beatsZ s w gs a b else decZ s w g a b * g
def stpAt (l : List Stp) (i : Nat) : Stp := l[i]?.getD (0, 0)
def bestB (s : List Rul) (w gs : List Int) (l : List Stp) (i : Nat) : Bool := allB l.length fun k => k == i || decide (0 < beatsZ s w gs (stpAt l i) (stpAt l k))
def bestI (s : List Rul) (w gs : List Int) (l : List Stp) : Int := firstIdx l.length (bestB s w gs l)
def groundI (s : List Rul) (w gs : List Int) (l : List Stp) (i : Nat) : Int := if 1 < l.length then beatsZ s w gs (stpAt l i) (stpAt l (if i = 0 then 1 else 0)) else 0
abbrev Ch : Type := Nat × Int × Int
def winL (s : List Rul) (w gs : List Int) (l : List Stp) : Option Ch :=
 if l.length = 0 then none
 else if bestI s w gs l < 0 then some ((stpAt l (l.length - 1)).1, (stpAt l (l.length - 1)).2, 0)
 else some ((stpAt l (bestI s w gs l).toNat).1, (stpAt l (bestI s w gs l).toNat).2, groundI s w gs l (bestI s w gs l).toNat)
def winS (s : List Rul) (w gs : List Int) : Option Ch := winL s w gs (movesL s w)
theorem pro_not {s : List Rul} {w : List Int} {g : Int} {a b : Stp} (h : proB s w g a b = true) : proB s w g b a = false := by
 unfold proB at *
 by_cases h1 : g = 1
 ·simp only [h1, if_pos] at h ⊢
  simp only [Bool.and_eq_true, Bool.not_eq_true'] at h
  simp [h.2.1, h.2.2]
 ·by_cases h2 : g = 2
  ·subst h2
   simp only [if_neg h1, if_pos, Bool.and_eq_true, Bool.not_eq_true'] at h ⊢
   simp [h.1, h.2]
  ·by_cases h3 : g = 3
   ·subst h3
    simp only [if_neg h1, if_neg h2, if_pos, decide_eq_true_eq] at h ⊢
    simp; omega
   ·simp only [if_neg h1, if_neg h2, if_neg h3, decide_eq_true_eq] at h ⊢
    simp; omega
theorem dec_neg (s : List Rul) (w : List Int) (g : Int) (a b : Stp) : decZ s w g b a = - decZ s w g a b := by
 unfold decZ
 cases h : proB s w g a b
 ·cases h2 : proB s w g b a <;> simp
 ·rw [pro_not h]; simp
theorem beats_neg (s : List Rul) (w : List Int) (a b : Stp) : ∀ gs : List Int, beatsZ s w gs b a = - beatsZ s w gs a b := by
 intro gs
 induction gs with
 | nil => rfl
 | cons g gs ih =>
  simp only [beatsZ]
  rw [dec_neg s w g a b]
  by_cases h : decZ s w g a b = 0
  ·rw [if_pos h, if_pos (by omega), ih]
  ·rw [if_neg h, if_neg (by omega), Int.neg_mul]
def scanTo (s : List Rul) (w gs : List Int) (l : List Stp) : Nat → Nat
 | 0 => 0
 | k + 1 => if beatsZ s w gs (stpAt l (scanTo s w gs l k)) (stpAt l (k + 1)) ≤ 0 then k + 1 else scanTo s w gs l k
def scanI (s : List Rul) (w gs : List Int) (l : List Stp) : Nat := scanTo s w gs l (l.length - 1)
def scanOk (s : List Rul) (w gs : List Int) (l : List Stp) : Bool := allB l.length fun k => k == scanI s w gs l || decide (0 < beatsZ s w gs (stpAt l (scanI s w gs l)) (stpAt l k))
theorem scanTo_le (s : List Rul) (w gs : List Int) (l : List Stp) : ∀ k, scanTo s w gs l k ≤ k := by
 intro k
 induction k with
 | zero => simp [scanTo]
 | succ k ih => simp only [scanTo]; split <;> omega
theorem scanI_lt {s : List Rul} {w gs : List Int} {l : List Stp} (h : l.length ≠ 0) : scanI s w gs l < l.length := by
 have := scanTo_le s w gs l (l.length - 1)
 unfold scanI; omega
theorem scan_best {s : List Rul} {w gs : List Int} {l : List Stp} {i : Nat} (hi : i < l.length) (h : bestB s w gs l i = true) : scanI s w gs l = i := by
 unfold bestB allB at h
 rw [List.all_eq_true] at h
 have hb : ∀ k, k < l.length → k ≠ i → 0 < beatsZ s w gs (stpAt l i) (stpAt l k) := fun k hk hne => by
  have := h k (by simpa using hk)
  simpa [hne] using this
 have key : ∀ k, k < l.length → i ≤ k → scanTo s w gs l k = i := by
  intro k
  induction k with
  | zero => intro _ h0; simp [scanTo]; omega
  | succ k ih =>
   intro hk hik
   simp only [scanTo]
   by_cases e : i = k + 1
   ·rw [if_pos]
    ·exact e.symm
    ·rw [← e, beats_neg s w (stpAt l i) _ gs]
     have hle := scanTo_le s w gs l k
     have := hb (scanTo s w gs l k) (by omega) (by omega)
     omega
   ·rw [ih (by omega) (by omega), if_neg]
    have := hb (k + 1) hk (by omega)
    omega
 exact key _ (by omega) (by omega)
theorem scanOk_best {s : List Rul} {w gs : List Int} {l : List Stp} : scanOk s w gs l = bestB s w gs l (scanI s w gs l) := rfl
theorem scan_bestI {s : List Rul} {w gs : List Int} {l : List Stp} (h : l.length ≠ 0) : bestI s w gs l = if scanOk s w gs l then (scanI s w gs l : Int) else -1 := by
 unfold bestI
 rcases firstIdx_cases l.length (bestB s w gs l) with ⟨j, hj, ht, _, he⟩ | ⟨hn, he⟩
 ·have := scan_best hj ht
  rw [he, scanOk_best, this, ht]; simp
 ·rw [he, scanOk_best, hn _ (scanI_lt h)]; simp
theorem sel_pair (n : Nat) (f : Nat → Bool) : (sel n f).Pairwise (· < ·) := by
 rw [List.pairwise_iff_getElem]
 intro i j hi hj hij
 have := sel_sorted (f := f) hij hj
 simpa [hi, hj] using this
def stpLt (a b : Stp) : Prop := a.1 < b.1 ∨ (a.1 = b.1 ∧ a.2 < b.2)
theorem movesAt_mem {x : Rul} {k : Nat} {w : List Int} {a : Stp} (h : a ∈ movesAt x k w) : a.1 = k ∧ 0 ≤ a.2 ∧ a.2 ≤ w.length ∧ applyK x w a.2 = 0 := by
 unfold movesAt at h
 obtain ⟨p, hp, rfl⟩ := List.mem_map.1 h
 unfold sel at hp
 obtain ⟨n, hn, rfl⟩ := List.mem_map.1 hp
 rw [List.mem_filter] at hn
 obtain ⟨h1, h2⟩ := hn
 have : n < w.length + 1 := by simpa using h1
 exact ⟨rfl, by simp, by simp; omega, by simpa using h2⟩
theorem movesAt_pair (x : Rul) (k : Nat) (w : List Int) : (movesAt x k w).Pairwise stpLt := by
 unfold movesAt
 rw [List.pairwise_map]
 exact (sel_pair _ _).imp fun h => .inr ⟨rfl, h⟩
theorem movesTo_succ (s : List Rul) (w : List Int) (n : Nat) : movesTo s w (n + 1) = movesTo s w n ++ movesAt (rulAt s n) n w := by
 unfold movesTo; rw [List.range_succ]; simp
theorem movesTo_mem {s : List Rul} {w : List Int} {a : Stp} : ∀ {n : Nat}, a ∈ movesTo s w n → a.1 < n ∧ 0 ≤ a.2 ∧ a.2 ≤ w.length ∧ applyK (rulAt s a.1) w a.2 = 0 := by
 intro n h
 unfold movesTo at h
 obtain ⟨k, hk, h⟩ := List.mem_flatMap.1 h
 obtain ⟨h1, h2, h3, h4⟩ := movesAt_mem h
 have : k < n := by simpa using hk
 exact ⟨by omega, h2, h3, by rw [h1]; exact h4⟩
theorem movesTo_pair (s : List Rul) (w : List Int) : ∀ n, (movesTo s w n).Pairwise stpLt := by
 intro n
 induction n with
 | zero => simp [movesTo]
 | succ n ih =>
  rw [movesTo_succ, List.pairwise_append]
  refine ⟨ih, movesAt_pair _ _ _, fun a ha b hb => .inl ?_⟩
  have := movesTo_mem ha
  have := movesAt_mem hb
  omega
theorem moves_inj {s : List Rul} {w : List Int} {i k : Nat} (hi : i < (movesL s w).length) (hk : k < (movesL s w).length) : stpAt (movesL s w) i = stpAt (movesL s w) k ↔ i = k := by
 constructor
 ·intro h
  have hp := List.pairwise_iff_getElem.1 (show (movesL s w).Pairwise stpLt from movesTo_pair s w s.length)
  unfold stpAt at h
  rw [List.getElem?_eq_getElem hi, List.getElem?_eq_getElem hk] at h
  have h' : (movesL s w)[i] = (movesL s w)[k] := h
  rcases Nat.lt_trichotomy i k with hl | hl | hl
  ·exfalso
   have hh := hp i k hi hk hl
   rw [h'] at hh
   rcases hh with hh | hh <;> omega
  ·exact hl
  ·exfalso
   have hh := hp k i hk hi hl
   rw [h'] at hh
   rcases hh with hh | hh <;> omega
 ·intro h; rw [h]
theorem moves_at {s : List Rul} {w : List Int} {i : Nat} (hi : i < (movesL s w).length) : (stpAt (movesL s w) i).1 < s.length ∧ 0 ≤ (stpAt (movesL s w) i).2 ∧ (stpAt (movesL s w) i).2 ≤ w.length ∧ applyK (rulAt s (stpAt (movesL s w) i).1) w (stpAt (movesL s w) i).2 = 0 := by
 unfold stpAt
 rw [List.getElem?_eq_getElem hi]
 exact movesTo_mem (List.getElem_mem hi)
theorem movesAt_len (x : Rul) (k : Nat) (w : List Int) : (movesAt x k w).length ≤ w.length + 1 := by
 unfold movesAt; rw [List.length_map]; exact sel_le _ _
theorem movesTo_len (s : List Rul) (w : List Int) : ∀ n, (movesTo s w n).length ≤ n * (w.length + 1) := by
 intro n
 induction n with
 | zero => simp [movesTo]
 | succ n ih =>
  rw [movesTo_succ, List.length_append, Nat.succ_mul]
  have := movesAt_len (rulAt s n) n w
  omega
def outG (gs : List Int) : Bool := !allB gs.length fun i => inB (gs[i]?.getD 0) 1 4
def dupG (gs : List Int) (i : Nat) : Bool := hasB (gs.take i) (gs[i]?.getD 0)
def validG (gs : List Int) : Int := if 4 < gs.length then 3 else if outG gs then 1 else if allB gs.length (fun i => !dupG gs i) then 0 else 5
def errS : List Rul → Int
 | [] => 0
 | x :: s => if validR x = 0 then errS s else validR x
def validS (s : List Rul) : Int := if 6 < s.length then 3 else errS s
def checkW (s : List Rul) (w : List Int) : Int := if validS s = 0 then validW w else validS s
def checkK (s : List Rul) (w gs : List Int) : Int := if checkW s w = 0 then validG gs else checkW s w
end Go.Proofs.YtpmlcfgbfhgpgaaGreatDoor
/- A school by orders: plain. -/
namespace Go.Proofs.YtpmlcfgbfhgpgaaGreatDoor
open Go.RowKit
set_option linter.unusedVariables false
inductive Cmd where
 | learn (n : Nat)
 | forget (n : Nat)
 | change (n : Nat)
 | read (w : List Int)
 | step
 | fin
 | undo
 | say
def wLearn : Bs := [108, 101, 97, 114, 110]
def wForget : Bs := [102, 111, 114, 103, 101, 116]
def wSwitch : Bs := [115, 119, 105, 116, 99, 104]
def wRead : Bs := [114, 101, 97, 100]
def wStep : Bs := [115, 116, 101, 112]
def wEnd : Bs := [101, 110, 100]
def wUndo : Bs := [117, 110, 100, 111]
def wSay : Bs := [115, 97, 121]
def wordOf (t : Bs) : Bs := t.takeWhile (· != 32)
def restOf (t : Bs) : Bs := t.drop ((wordOf t).length + 1)
def moreOf (t : Bs) : Bool := decide ((wordOf t).length < t.length)
def digB (b : UInt8) : Bool := decide (48 ≤ b.toNat) && decide (b.toNat ≤ 57)
def numOf (r : Bs) : Option Nat :=
 match r with
 | [a] => if digB a then some (a.toNat - 48) else none
 | [a, b] => if digB a && digB b && decide (a.toNat ≠ 48) then some (10 * (a.toNat - 48) + (b.toNat - 48)) else none
 | _ => none
def sndOf (r : Bs) : Option (List Int) :=
 if decide (1 ≤ r.length) && decide (r.length ≤ 8) && r.all (fun b => decide (48 ≤ b.toNat) && decide (b.toNat ≤ 53)) then some (r.map fun b => (b.toNat : Int) - 48) else none
def parseB (t : Bs) : Option Cmd :=
 if 30 < t.length then none
 else if wordOf t = wLearn then (if moreOf t then (numOf (restOf t)).map .learn else none)
 else if wordOf t = wForget then (if moreOf t then (numOf (restOf t)).map .forget else none)
 else if wordOf t = wSwitch then (if moreOf t then (numOf (restOf t)).map .change else none)
 else if wordOf t = wRead then (if moreOf t then (sndOf (restOf t)).map .read else none)
 else if wordOf t = wStep then (if moreOf t then none else some .step)
 else if wordOf t = wEnd then (if moreOf t then none else some .fin)
 else if wordOf t = wUndo then (if moreOf t then none else some .undo)
 else if wordOf t = wSay then (if moreOf t then none else some .say)
 else none
structure St where
 kn : List Int
 gr : List Int
 has : Bool
 base : List Int
 words : List (List Int)
 slate : List Ch
 forms : List (List Int)
 orders : List ByteArray
def st0 : St := ⟨[], [], false, [], [], [], [], []⟩
def lastW (x : St) : List Int := x.words[x.words.length - 1]?.getD []
def sysL (s : List Rul) (x : St) : List Rul := x.kn.map fun k => rulAt s k.toNat
def chooseS (s : List Rul) (x : St) : Option Ch := (winS (sysL s x) (lastW x) x.gr).map fun c => ((x.kn[c.1]?.getD 0).toNat, c.2.1, c.2.2)
def stepTo (s : List Rul) (x : St) (c : Ch) : St := { x with words := x.words ++ [applyL (rulAt s c.1) (lastW x) c.2.1], slate := x.slate ++ [c] }
def advS (s : List Rul) (x : St) : St × Int :=
 match chooseS s x with
 | none => (x, 6)
 | some c => if x.slate.length = 60 then (x, 3) else (stepTo s x c, 0)
def endS (s : List Rul) : Nat → St → St × Int
 | 0, x => (x, 0)
 | n + 1, x => if (advS s x).2 = 0 then endS s n (advS s x).1 else if (advS s x).2 = 6 then (x, 0) else (x, (advS s x).2)
def teachS (s : List Rul) (x : St) : Cmd → St × Int
 | .learn n => if s.length ≤ n then (x, 4) else if hasB x.kn n then (x, 5) else ({ x with kn := x.kn.filter (· < (n : Int)) ++ (n : Int) :: x.kn.filter ((n : Int) < ·) }, 0)
 | .forget n => if s.length ≤ n then (x, 4) else if hasB x.kn n then ({ x with kn := x.kn.filter (· != (n : Int)) }, 0) else (x, 8)
 | .change n => if n < 1 ∨ 4 < n then (x, 4) else if hasB x.gr n then ({ x with gr := x.gr.filter (· != (n : Int)) }, 0) else ({ x with gr := x.gr ++ [(n : Int)] }, 0)
 | _ => (x, 0)
def execS (s : List Rul) (x : St) : Cmd → St × Int
 | .learn n => teachS s x (.learn n)
 | .forget n => teachS s x (.forget n)
 | .change n => teachS s x (.change n)
 | .read w => ({ x with has := true, base := w, words := [w], slate := [] }, 0)
 | .step => if x.has then advS s x else (x, 8)
 | .fin => if x.has then endS s 61 x else (x, 8)
 | .undo => if x.has then (if x.slate.length = 0 then (x, 8) else ({ x with slate := x.slate.take (x.slate.length - 1), words := x.words.take x.slate.length }, 0)) else (x, 8)
 | .say => if x.has then (match chooseS s x with | some _ => (x, 6) | none => if x.forms.contains (lastW x) then (x, 5) else ({ x with forms := x.forms ++ [lastW x] }, 0)) else (x, 8)
def doS (s : List Rul) (x : St) (t : ByteArray) : St × Int :=
 match parseB t.data.toList with
 | none => (x, 2)
 | some c => if 100 ≤ x.orders.length then (x, 3) else if (execS s x c).2 = 0 then ({ (execS s x c).1 with orders := x.orders ++ [t] }, 0) else (x, (execS s x c).2)
def runS (s : List Rul) (x : St) : List ByteArray → St
 | [] => x
 | t :: ts => runS s (doS s x t).1 ts
def endedS (s : List Rul) (x : St) : Bool := x.has && (chooseS s x).isNone
structure InvE (s : List Rul) (x : St) : Prop where
 rules : validS s = 0
 knS : x.kn.Pairwise (· < ·)
 knR : ∀ k ∈ x.kn, 0 ≤ k ∧ k < s.length
 gr : validG x.gr = 0
 wlen : x.has = true → x.words.length = x.slate.length + 1
 w0 : x.has = true → x.words[0]? = some x.base
 none_ : x.has = false → x.words = [] ∧ x.slate = [] ∧ x.base = []
 wv : ∀ w ∈ x.words, validW w = 0
 made : ∀ (i : Nat) (c : Ch), x.slate[i]? = some c → c.1 < s.length ∧ (0 ≤ c.2.2 ∧ c.2.2 ≤ 4) ∧ applyK (rulAt s c.1) (x.words[i]?.getD []) c.2.1 = 0 ∧ x.words[i + 1]? = some (applyL (rulAt s c.1) (x.words[i]?.getD []) c.2.1)
 slen : x.slate.length ≤ 60
 formsN : x.forms.Nodup
 formsV : ∀ w ∈ x.forms, validW w = 0
structure Inv (s : List Rul) (x : St) : Prop extends InvE s x where
 formsL : x.forms.length ≤ x.orders.length
 olen : x.orders.length ≤ 100
 oR : ∀ o ∈ x.orders, (parseB o.data.toList).isSome = true
end Go.Proofs.YtpmlcfgbfhgpgaaGreatDoor
/- The forms of orders by their words: a map with texts as keys. -/
namespace Go.Proofs.YtpmlcfgbfhgpgaaGreatDoor
open Go.RowKit Go.Shelf
set_option linter.unusedVariables false
abbrev Fms : Type := List (ByteArray × (Int × Int))
def encF (x : Int × Int) : Value := .agg #[.int .i64 x.1, .int .i64 x.2]
def hasF (q : Fms) (t : ByteArray) : Bool := q.any (fun p => decide (t = p.1))
def findF (q : Fms) (t : ByteArray) : Int × Int := ((q.find? (fun p => decide (t = p.1))).map Prod.snd).getD (0, 0)
theorem beq_bytes (a b : ByteArray) : (a == b) = decide (a = b) := by rw [beq_toListBytes, neq_txt]
theorem findNow_f (t : ByteArray) : ∀ (es : List MapEntry) (q : Fms) (i : Nat), es.map (fun e => (e.key, e.val)) = q.map (fun p => (Value.string p.1, encF p.2)) →
  ∃ j, Instr.findNow .string (.string t) es i = some (if hasF q t then some (j, encF (findF q t)) else none)
 | [], [], i, _ => ⟨0, by simp [Instr.findNow, hasF]⟩
 | [], _ :: _, _, h => by simp at h
 | _ :: _, [], _, h => by simp at h
 | e :: es, p :: q, i, h => by
  simp only [List.map_cons, List.cons.injEq, Prod.mk.injEq] at h
  obtain ⟨⟨hk, hv⟩, h⟩ := h
  unfold Instr.findNow
  rw [hk, hv]
  simp only [Instr.sameNow, beq_bytes]
  by_cases hd : t = p.1
  ·refine ⟨i, ?_⟩
   have h1 : decide (t = p.1) = true := by simp [hd]
   have h2 : hasF (p :: q) t = true := by simp [hasF, hd]
   have h3 : findF (p :: q) t = p.2 := by simp [findF, hd]
   rw [h1, h2, h3]; simp
  ·obtain ⟨j, hj⟩ := findNow_f t es q (i + 1) h
   refine ⟨j, ?_⟩
   have h1 : decide (t = p.1) = false := by simp [hd]
   have h2 : hasF (p :: q) t = hasF q t := by simp [hasF, hd]
   have h3 : findF (p :: q) t = findF q t := by simp [findF, hd]
   rw [h1, h2, h3]; simpa using hj
def MapF (W : World) (r : Nat) (q : Fms) : Prop := ∃ arr clock, W.heap[r]? = some (.map arr clock) ∧ arr.toList.map (fun e => (e.key, e.val)) = q.map (fun p => (Value.string p.1, encF p.2))
theorem MapF.lt {W : World} {r : Nat} {q : Fms} (h : MapF W r q) : r < W.heap.size := by
 obtain ⟨arr, c, hb, _⟩ := h; exact (Array.getElem?_eq_some_iff.1 hb).1
theorem MapF.ext {W W' : World} {r : Nat} {q : Fms} (h : MapF W r q) (hx : Ext W W') : MapF W' r q := by
 have hl := h.lt
 obtain ⟨arr, c, hb, he⟩ := h; exact ⟨arr, c, (hx.block r hl).trans hb, he⟩
theorem run_findKeyF (W : World) (t : ByteArray) (es : List MapEntry) (q : Fms) (h : es.map (fun e => (e.key, e.val)) = q.map (fun p => (Value.string p.1, encF p.2))) :
  ∃ j, (Instr.findKey 9 (.string t) es).run Tryz.prog W = .ok (if hasF q t then some (j, encF (findF q t)) else none) W := by
 obtain ⟨j, hj⟩ := findNow_f t es q 0 h
 refine ⟨j, ?_⟩
 unfold Instr.findKey
 simp only [Sem.run_bind, run_underlying Tryz.underlying9, Result.andThen_ok]
 rw [hj]; rfl
theorem run_checkKey_aux1 (W : World) (t : ByteArray) (em : Bool) (n : Nat) : (Instr.checkKey em (n + 1) 9 (.string t)).run Tryz.prog W = .ok () W := by
 have u3 : Tryz.prog.underlying 9 = some .string := Tryz.underlying9
 simp only [Instr.checkKey]
 go_simp
theorem run_checkKey_str (W : World) (t : ByteArray) (em : Bool) : (Instr.checkKey em 10000 9 (.string t)).run Tryz.prog W = .ok () W := run_checkKey_aux1 W t em 9999
theorem run_lookupF {W : World} {r : Nat} {q : Fms} (h : MapF W r q) (t : ByteArray) : (Instr.lookup 208 (.map (some r)) (.string t) true).run Tryz.prog W = .ok (.tuple #[encF (findF q t), .bool (hasF q t)]) W := by
 obtain ⟨arr, clock, hb, he⟩ := h
 obtain ⟨j, hj⟩ := run_findKeyF W t arr.toList q he
 have hz : (zeroValue 206).run Tryz.prog W = .ok (encF (0, 0)) W := by kernel_rfl
 have hgo : (getObj r).run Tryz.prog W = .ok (.map arr clock) W := Go.MapKept.run_getObj_map hb
 have hck : (Instr.checkKey arr.isEmpty 10000 9 (.string t)).run Tryz.prog W = .ok () W := run_checkKey_str W t _
 cases hd : hasF q t
 ·have hf : findF q t = (0, 0) := by
   unfold hasF at hd
   rw [List.any_eq_false] at hd
   unfold findF
   rw [List.find?_eq_none.2 (fun x hx => by simpa using hd x hx)]; rfl
  rw [hd] at hj
  rw [hf]
  simp [Instr.lookup, run_underlying Tryz.underlying208, hgo, hck, hj, hz]
 ·rw [hd] at hj
  simp [Instr.lookup, run_underlying Tryz.underlying208, hgo, hck, hj]
theorem run_updateF {W : World} {r : Nat} {q : Fms} (h : MapF W r q) {t : ByteArray} (hd : hasF q t = false) (l : Int × Int) : ∃ W', (Instr.mapUpdate 208 (.map (some r)) (.string t) (encF l)).run Tryz.prog W = .ok () W' ∧ MapF W' r (q ++ [(t, l)]) ∧ W.grownBy W' (some r) ∧ W'.heap.size = W.heap.size := by
 obtain ⟨arr, clock, hb, he⟩ := h
 obtain ⟨j, hj⟩ := run_findKeyF W t arr.toList q he
 rw [hd] at hj
 refine ⟨_, ?_, ?_, grownBy_putObj' W r (.map (arr.push ⟨.string t, encF l, clock⟩) (clock + 1)), by simp⟩
 ·have hgo : (getObj r).run Tryz.prog W = .ok (.map arr clock) W := Go.MapKept.run_getObj_map hb
  have hst : ∀ o, (setObj r o).run Tryz.prog W = .ok () (W.putObj r o) := fun o => Go.MapKept.run_setObj_map o hb
  simp [Instr.mapUpdate, run_underlying Tryz.underlying208, hgo, run_checkKey_str, hj, hst]
 ·refine ⟨_, _, World.putObj_heap_same (Array.getElem?_eq_some_iff.1 hb).1, ?_⟩
  simp [he]
def formsQ : Fms := [(⟨#[108, 101, 97, 114, 110]⟩, 0, 1), (⟨#[102, 111, 114, 103, 101, 116]⟩, 1, 1), (⟨#[115, 119, 105, 116, 99, 104]⟩, 2, 1), (⟨#[114, 101, 97, 100]⟩, 3, 2), (⟨#[115, 116, 101, 112]⟩, 4, 0), (⟨#[101, 110, 100]⟩, 5, 0), (⟨#[117, 110, 100, 111]⟩, 6, 0), (⟨#[115, 97, 121]⟩, 7, 0)]
set_option maxHeartbeats 4000000 in
set_option maxRecDepth 100000 in
theorem forms_c (w : World) : Calls Tryz.prog 148 #[] w fun e w' => e = .returned (.map (some w.heap.size)) ∧ Ext w w' ∧ MapF w' w.heap.size formsQ := by
 have hmm := @run_makeMap Tryz.prog
 have hm0 : MapF (w.alloc (.map #[] 0)) w.heap.size [] := ⟨#[], 0, World.alloc_heap_new w (.map #[] 0), rfl⟩
 obtain ⟨w1, u1, m1, g1, s1⟩ := run_updateF hm0 (t := ⟨#[108, 101, 97, 114, 110]⟩) rfl (0, 1)
 obtain ⟨w2, u2, m2, g2, s2⟩ := run_updateF m1 (t := ⟨#[102, 111, 114, 103, 101, 116]⟩) (by decide) (1, 1)
 obtain ⟨w3, u3, m3, g3, s3⟩ := run_updateF m2 (t := ⟨#[115, 119, 105, 116, 99, 104]⟩) (by decide) (2, 1)
 obtain ⟨w4, u4, m4, g4, s4⟩ := run_updateF m3 (t := ⟨#[114, 101, 97, 100]⟩) (by decide) (3, 2)
 obtain ⟨w5, u5, m5, g5, s5⟩ := run_updateF m4 (t := ⟨#[115, 116, 101, 112]⟩) (by decide) (4, 0)
 obtain ⟨w6, u6, m6, g6, s6⟩ := run_updateF m5 (t := ⟨#[101, 110, 100]⟩) (by decide) (5, 0)
 obtain ⟨w7, u7, m7, g7, s7⟩ := run_updateF m6 (t := ⟨#[117, 110, 100, 111]⟩) (by decide) (6, 0)
 obtain ⟨w8, u8, m8, g8, s8⟩ := run_updateF m7 (t := ⟨#[115, 97, 121]⟩) (by decide) (7, 0)
 have hx : Ext w w8 := by
  have step : ∀ {a b : World}, Ext w a → a.grownBy b (some w.heap.size) → Ext w b := fun h g => h.grown g h.size (fun k hk => by cases hk; exact Nat.le_refl _)
  exact step (step (step (step (step (step (step (step (Ext.alloc w _) g1) g2) g3) g4) g5) g6) g7) g8
 have HM := Lib.hid m8
 simp only [encF] at u1 u2 u3 u4 u5 u6 u7 u8
 clear m1 m2 m3 m4 m5 m6 m7 m8 g1 g2 g3 g4 g5 g6 g7 g8 s1 s2 s3 s4 s5 s6 s7 s8 hm0
 go_enter Tryz.func148, Tryz.ntmps148
 go_wp2_with fail
 go_ret
 exact ⟨rfl, hx, HM.out⟩
end Go.Proofs.YtpmlcfgbfhgpgaaGreatDoor
/- spelled: the sounds of a text of digits. -/
namespace Go.Proofs.YtpmlcfgbfhgpgaaGreatDoor
open Go.RowKit Go.Shelf
set_option linter.unusedVariables false
theorem bytesWorld_ext (w : World) (e : TypeId) (s : ByteArray) : Ext w (Lib.bytesWorld w e s) :=
 ⟨rfl, rfl, rfl, by rw [Lib.bytesWorld_size]; omega, fun k hk => Lib.bytesWorld_at_old w e s k hk⟩
def dig5 (b : UInt8) : Bool := decide (48 ≤ b.toNat) && decide (b.toNat ≤ 53)
theorem sndOf_bad (t : Bs) (k : Nat) (h : k < t.length) (hb : dig5 t[k] = false) : sndOf t = none := by
 unfold sndOf
 rw [if_neg]
 intro hh
 simp only [Bool.and_eq_true] at hh
 have := List.all_eq_true.1 hh.2 t[k] (List.getElem_mem h)
 unfold dig5 at hb
 rw [hb] at this; cases this
theorem sndOf_good (t : Bs) (h1 : 1 ≤ t.length) (h2 : t.length ≤ 8) (h : ∀ j (hj : j < t.length), dig5 t[j] = true) : sndOf t = some (t.map fun b => (b.toNat : Int) - 48) := by
 unfold sndOf
 rw [if_pos]
 simp only [Bool.and_eq_true, decide_eq_true_eq]
 refine ⟨⟨h1, h2⟩, List.all_eq_true.2 fun x hx => ?_⟩
 obtain ⟨j, hj, rfl⟩ := List.mem_iff_getElem.1 hx
 exact h j hj
theorem sndOf_len (t : Bs) (h : t.length < 1 ∨ 8 < t.length) : sndOf t = none := by
 unfold sndOf
 rw [if_neg]
 intro hh
 simp only [Bool.and_eq_true, decide_eq_true_eq] at hh
 omega
set_option maxHeartbeats 2000000 in
set_option maxRecDepth 100000 in
theorem spelled_c (t : ByteArray) (w : World) :
  Calls Tryz.prog 150 #[.string t] w fun e w' => ∃ v, e = .returned (.tuple #[v, .bool (sndOf (txt t)).isSome]) ∧ OInts 3 w' w.heap.size v ((sndOf (txt t)).getD []) ∧ Ext w w' := by
 have hsz := txt_size t
 by_cases h1 : t.size < 1
 ·have HS := Lib.hid (sndOf_len (txt t) (by omega))
  go_enter Tryz.func150, Tryz.ntmps150
  go_wp2_with fail
  go_ret2
  exact ⟨_, by rw [HS.out]; rfl, by rw [HS.out]; exact OInts.nil _ _ _, Ext.refl _⟩
 ·by_cases h2 : 8 < t.size
  ·have HS := Lib.hid (sndOf_len (txt t) (by omega))
   go_enter Tryz.func150, Tryz.ntmps150
   go_wp2_with fail
   go_ret2
   exact ⟨_, by rw [HS.out]; rfl, by rw [HS.out]; exact OInts.nil _ _ _, Ext.refl _⟩
  ·have kc := Lib.run_convert_string_bytes (P := Tryz.prog) w 9 173 5 t Tryz.underlying9 Tryz.underlying173 Tryz.underlying5
   have hX0 := bytesWorld_ext w 5 t
   have HC := Lib.hid (fun j hj => Lib.bytesWorld_cell w 5 t j hj)
   generalize Lib.bytesWorld w 5 t = wB at *
   generalize grownCap w t.size 0 5 = cp at *
   go_enter Tryz.func150, Tryz.ntmps150
   go_wp2_with fail
   go_loopg [18, 4] t.size (fun m i v wr => ∃ (k : Nat), k ≤ t.size ∧ t.size ≤ k + m ∧ i = .int .i64 k ∧ Ext wB wr ∧ Ext w wr ∧ OInts 3 wr wB.heap.size v (((txt t).take k).map fun b => (b.toNat : Int) - 48) ∧ Hid (∀ j (hj : j < (txt t).length), j < k → dig5 (txt t)[j] = true))
   case atStart => exact ⟨0, by omega, by omega, rfl, Ext.refl _, hX0, OInts.nil _ _ _, Lib.hid fun j _ h => by omega⟩
   case round =>
    obtain ⟨k, hk, hk2, rfl, hXB, hX, hown, hD⟩ := hrel
    by_cases hlt : k < t.size
    ·have hc := hXB.keep (HC.out k hlt)
     have hkl : k < (txt t).length := by omega
     have hge : (t.data.toList.getD k 0) = (txt t)[k] := by
      rw [List.getD_eq_getElem?_getD, show t.data.toList = txt t from rfl, List.getElem?_eq_getElem hkl]; rfl
     rw [hge] at hc
     obtain ⟨x, hx⟩ : ∃ x : Nat, ((txt t)[k]).toNat = x := ⟨_, rfl⟩
     rw [hx] at hc
     have hx256 : x < 256 := by rw [← hx]; exact UInt8.toNat_lt _
     have HX := Lib.hid hx; clear hx hge
     by_cases hx1 : x < 48
     ·have HS := Lib.hid (sndOf_bad (txt t) k hkl (by unfold dig5; rw [HX.out]; simp; omega))
      go_wp2_with fail
      go_ret2
      exact ⟨_, by rw [HS.out]; rfl, by rw [HS.out]; exact OInts.nil _ _ _, hX⟩
     ·by_cases hx2 : 54 ≤ x
      ·have HS := Lib.hid (sndOf_bad (txt t) k hkl (by unfold dig5; rw [HX.out]; simp; omega))
       go_wp2_with fail
       go_ret2
       exact ⟨_, by rw [HS.out]; rfl, by rw [HS.out]; exact OInts.nil _ _ _, hX⟩
      ·have hB := hXB.size
       go_wp2_with (at_builtin; refine wpList_appendInt elInts rfl _ _ rfl rfl rfl hown rfl hB (by simp; omega) ?_; intro v6 w6 ho6 hb6)
       go_roundg (gk-1)
       case measure => omega
       case rel => exact ⟨k + 1, by omega, by omega, by go_num, hXB.upto hb6 (Nat.le_refl _), hX0.trans (hXB.upto hb6 (Nat.le_refl _)), by
         rw [List.take_add_one, List.getElem?_eq_getElem hkl, Option.toList_some, List.map_append, List.map_cons, List.map_nil, HX.out]; exact ho6, Lib.hid fun j hj hjk => by
         by_cases e : j = k
         ·subst e; unfold dig5; rw [HX.out]; simp; omega
         ·exact hD.out j hj (by omega)⟩
    ·obtain rfl : k = t.size := by omega
     have HS := Lib.hid (sndOf_good (txt t) (by omega) (by omega) (fun j hj => hD.out j hj (by omega)))
     rw [List.take_of_length_le (by omega)] at hown
     go_wp2_with fail
     go_ret2
     exact ⟨_, by rw [HS.out]; rfl, by rw [HS.out]; exact hown.low hX0.size, hX⟩
end Go.Proofs.YtpmlcfgbfhgpgaaGreatDoor
/- Numbers of orders: plain. -/
namespace Go.Proofs.YtpmlcfgbfhgpgaaGreatDoor
open Go.RowKit Go.Shelf
set_option linter.unusedVariables false
def ddL (n : Nat) : Bs := if n < 10 then [UInt8.ofNat (48 + n)] else [UInt8.ofNat (48 + n / 10), UInt8.ofNat (48 + n % 10)]
theorem itoa_dd {n : Nat} (h : n ≤ 99) : Lib.itoa (n : Int) = ddL n := by
 unfold Lib.itoa ddL
 rw [if_neg (by omega), show ((n : Int).toNat) = n from rfl]
 rw [Lib.decDigits]
 by_cases h1 : n < 10
 ·rw [if_pos h1]; simp [h1]
 ·rw [if_neg h1]
  simp only [h1]
  rw [Lib.decDigits]
  have h2 : n / 10 < 10 := by omega
  simp [h2]
theorem atoi_dd : ∀ n, n < 100 → Lib.atoiAll (ddL n) = .ok (n : Int) := by decide
theorem num_dd : ∀ n, n < 100 → numOf (ddL n) = some n := by decide
theorem numOf_some {r : Bs} {n : Nat} (h : numOf r = some n) : n ≤ 99 ∧ r = ddL n := by
 unfold numOf at h
 split at h
 ·rename_i a
  split at h
  ·rename_i hd
   injection h with h
   unfold digB at hd
   simp only [Bool.and_eq_true, decide_eq_true_eq] at hd
   subst h
   refine ⟨by omega, ?_⟩
   unfold ddL
   rw [if_pos (by omega), show 48 + (a.toNat - 48) = a.toNat by omega]
   simp
  ·cases h
 ·rename_i a b
  split at h
  ·rename_i hd
   injection h with h
   unfold digB at hd
   simp only [Bool.and_eq_true, decide_eq_true_eq] at hd
   subst h
   refine ⟨by omega, ?_⟩
   unfold ddL
   rw [if_neg (by omega), show 48 + (10 * (a.toNat - 48) + (b.toNat - 48)) / 10 = a.toNat by omega, show 48 + (10 * (a.toNat - 48) + (b.toNat - 48)) % 10 = b.toNat by omega]
   simp
  ·cases h
 ·cases h
def numP (r : Bs) : Option Nat :=
 match Lib.atoiAll r with
 | .ok v => if Lib.itoa v = r ∧ 0 ≤ v ∧ v ≤ 99 then some v.toNat else none
 | _ => none
theorem numP_eq (r : Bs) : numP r = numOf r := by
 cases h : numOf r with
 | some n =>
  obtain ⟨h1, rfl⟩ := numOf_some h
  unfold numP
  rw [atoi_dd n (by omega)]
  simp only
  rw [if_pos ⟨itoa_dd h1, by omega, by omega⟩]
  simp
 | none =>
  unfold numP
  split
  ·rename_i v hv
   rw [if_neg]
   rintro ⟨h1, h2, h3⟩
   obtain ⟨n, rfl⟩ : ∃ n : Nat, v = n := ⟨v.toNat, by omega⟩
   rw [itoa_dd (by omega)] at h1
   rw [← h1, num_dd n (by omega)] at h
   cases h
  ·rfl
theorem atoi_range {r : Bs} {v : Int} (h : Lib.atoiAll r = .ok v) : -9223372036854775808 ≤ v ∧ v ≤ 9223372036854775807 := by
 unfold Lib.atoiAll at h
 split at h
 ·cases h
 ·simp only at h
  split at h
  ·cases h
  ·cases h
  ·split at h
   ·cases h
   ·split at h
    ·cases h
    ·injection h with h
     rw [← h]
     split <;> omega
end Go.Proofs.YtpmlcfgbfhgpgaaGreatDoor
/- Orders: plain, by their forms. -/
namespace Go.Proofs.YtpmlcfgbfhgpgaaGreatDoor
open Go.RowKit Go.Shelf
set_option linter.unusedVariables false
def formOf (A : Bs) : Option (Int × Int) :=
 if A = wLearn then some (0, 1) else if A = wForget then some (1, 1) else if A = wSwitch then some (2, 1) else if A = wRead then some (3, 2)
 else if A = wStep then some (4, 0) else if A = wEnd then some (5, 0) else if A = wUndo then some (6, 0) else if A = wSay then some (7, 0) else none
def cmdOf (k : Int) (n : Nat) (w : List Int) : Cmd :=
 if k = 0 then .learn n else if k = 1 then .forget n else if k = 2 then .change n else if k = 3 then .read w else if k = 4 then .step else if k = 5 then .fin else if k = 6 then .undo else .say
def kindC : Cmd → Int
 | .learn _ => 0
 | .forget _ => 1
 | .change _ => 2
 | .read _ => 3
 | .step => 4
 | .fin => 5
 | .undo => 6
 | .say => 7
def numC : Cmd → Nat
 | .learn n => n
 | .forget n => n
 | .change n => n
 | _ => 0
def wordC : Cmd → List Int
 | .read w => w
 | _ => []
theorem ofBs_eq (A B : Bs) : (ofBs A = ofBs B) ↔ A = B := ⟨fun h => by have := congrArg txt h; rwa [txt_of, txt_of] at this, fun h => by rw [h]⟩
theorem find_formsQ (A : Bs) : hasF formsQ (ofBs A) = (formOf A).isSome ∧ findF formsQ (ofBs A) = (formOf A).getD (0, 0) := by
 have h : formsQ = [(ofBs wLearn, 0, 1), (ofBs wForget, 1, 1), (ofBs wSwitch, 2, 1), (ofBs wRead, 3, 2), (ofBs wStep, 4, 0), (ofBs wEnd, 5, 0), (ofBs wUndo, 6, 0), (ofBs wSay, 7, 0)] := rfl
 unfold hasF findF formOf
 rw [h]
 simp only [List.any_cons, List.any_nil, List.find?_cons, List.find?_nil, ofBs_eq]
 repeat' split
 all_goals simp_all
theorem parseB_form (t : Bs) : parseB t = if 30 < t.length then none else match formOf (wordOf t) with
  | none => none
  | some (k, wh) => if moreOf t ≠ decide (wh ≠ 0) then none else if wh = 1 then (numOf (restOf t)).map (fun n => cmdOf k n []) else if wh = 2 then (sndOf (restOf t)).map (fun w => cmdOf k 0 w) else some (cmdOf k 0 []) := by
 unfold parseB formOf
 generalize wordOf t = A
 generalize moreOf t = M
 by_cases h0 : 30 < t.length
 ·rw [if_pos h0, if_pos h0]
 ·rw [if_neg h0, if_neg h0]
  by_cases h1 : A = wLearn
  ·rw [if_pos h1, if_pos h1]; cases M <;> simp [cmdOf]
  rw [if_neg h1, if_neg h1]
  by_cases h2 : A = wForget
  ·rw [if_pos h2, if_pos h2]; cases M <;> simp [cmdOf]
  rw [if_neg h2, if_neg h2]
  by_cases h3 : A = wSwitch
  ·rw [if_pos h3, if_pos h3]; cases M <;> simp [cmdOf]
  rw [if_neg h3, if_neg h3]
  by_cases h4 : A = wRead
  ·rw [if_pos h4, if_pos h4]; cases M <;> simp [cmdOf]
  rw [if_neg h4, if_neg h4]
  by_cases h5 : A = wStep
  ·rw [if_pos h5, if_pos h5]; cases M <;> simp [cmdOf]
  rw [if_neg h5, if_neg h5]
  by_cases h6 : A = wEnd
  ·rw [if_pos h6, if_pos h6]; cases M <;> simp [cmdOf]
  rw [if_neg h6, if_neg h6]
  by_cases h7 : A = wUndo
  ·rw [if_pos h7, if_pos h7]; cases M <;> simp [cmdOf]
  rw [if_neg h7, if_neg h7]
  by_cases h8 : A = wSay
  ·rw [if_pos h8, if_pos h8]; cases M <;> simp [cmdOf]
  rw [if_neg h8, if_neg h8]
theorem formOf_cases {A : Bs} {k wh : Int} (h : formOf A = some (k, wh)) : (wh = 0 ∧ 4 ≤ k ∧ k ≤ 7) ∨ (wh = 1 ∧ 0 ≤ k ∧ k ≤ 2) ∨ (wh = 2 ∧ k = 3) := by
 unfold formOf at h
 repeat' split at h
 all_goals first | (cases h; done) | (injection h with h; injection h with h1 h2; omega)
theorem cmdOf_num {k : Int} (n : Nat) (h0 : 0 ≤ k) (h2 : k ≤ 2) : kindC (cmdOf k n []) = k ∧ numC (cmdOf k n []) = n ∧ wordC (cmdOf k n []) = [] := by
 have : k = 0 ∨ k = 1 ∨ k = 2 := by omega
 rcases this with rfl | rfl | rfl <;> simp [cmdOf, kindC, numC, wordC]
theorem cmdOf_read (w : List Int) : kindC (cmdOf 3 0 w) = 3 ∧ numC (cmdOf 3 0 w) = 0 ∧ wordC (cmdOf 3 0 w) = w := by simp [cmdOf, kindC, numC, wordC]
theorem cmdOf_none {k : Int} (h0 : 4 ≤ k) (h2 : k ≤ 7) : kindC (cmdOf k 0 []) = k ∧ numC (cmdOf k 0 []) = 0 ∧ wordC (cmdOf k 0 []) = [] := by
 have : k = 4 ∨ k = 5 ∨ k = 6 ∨ k = 7 := by omega
 rcases this with rfl | rfl | rfl | rfl <;> simp [cmdOf, kindC, numC, wordC]
end Go.Proofs.YtpmlcfgbfhgpgaaGreatDoor
/- parse of the program. -/
namespace Go.Proofs.YtpmlcfgbfhgpgaaGreatDoor
open Go.RowKit Go.Shelf
set_option linter.unusedVariables false
def PRes (w : World) (o : Option Cmd) (e : Ending) (w' : World) : Prop := Ext w w' ∧ match o with
 | none => e = .returned (.tuple #[.agg #[.int .i64 0, .int .i64 0, .slice none 0 0], .bool false])
 | some c => ∃ v, e = .returned (.tuple #[.agg #[.int .i64 (kindC c), .int .i64 (numC c), v], .bool true]) ∧ OInts 3 w' w.heap.size v (wordC c)
theorem OInts.setB {w : World} {B g i : Nat} {u v : Value} {l : List Int} {ty : TypeId} {cs : List Value} (h : OInts 3 w B u l) (hb : Blk w g ty cs) (hne : ty ≠ 3) : OInts 3 (w.setCell ⟨g, i, none⟩ v) B u l :=
 h.kept (grownBy_set w g i v) (fun r e => by injection e with e; subst e; exact ⟨_, hb, fun cur h => by injection h with _ h2; exact hne h2⟩)
theorem atoi_c (R : Bs) (w : World) (hE : Env w) (hR : R.length ≤ 1000000) : Calls Tryz.prog 149 #[.string ⟨R.toArray⟩] w fun e w' => Ext w w' ∧ match Lib.atoiAll R with
  | .ok v => e = .returned (.tuple #[.int .i64 v, .nilIface])
  | _ => ∃ n t p, e = .returned (.tuple #[.int .i64 n, .iface t p]) := by
 have hs : (⟨R.toArray⟩ : ByteArray).size = R.length := ofBs_size R
 have hd : (⟨R.toArray⟩ : ByteArray).data.toList = R := rfl
 cases h : Lib.atoiAll R with
 | ok v =>
  refine (Tryz.strconv_Atoi_ok ⟨R.toArray⟩ (by omega) v (by rw [hd]; exact h) w).mono ?_
  rintro e w' ⟨rfl, hw⟩
  refine ⟨?_, rfl⟩
  rcases hw with rfl | ⟨t, rfl⟩
  ·exact Ext.refl _
  ·exact bytesWorld_ext _ _ _
 | range =>
  obtain ⟨tt, p, hv⟩ := hE.rng
  refine (Tryz.strconv_Atoi_range ⟨R.toArray⟩ (by omega) (by rw [hd]; exact h) _ w hv (.inr ⟨_, _, rfl⟩)).mono ?_
  rintro e w' ⟨N, rfl, _, _, hx⟩
  exact ⟨hx, _, _, _, rfl⟩
 | _ =>
  obtain ⟨tt, p, hv⟩ := hE.syn
  refine (Tryz.strconv_Atoi_syntax ⟨R.toArray⟩ (by omega) (by rw [hd]; exact h) _ w hv (.inr ⟨_, _, rfl⟩)).mono ?_
  rintro e w' ⟨N, rfl, _, _, hx⟩
  exact ⟨hx, _, _, _, rfl⟩
set_option maxHeartbeats 4000000 in
set_option maxRecDepth 100000 in
theorem parse_c (t : ByteArray) (w : World) (hE : Env w) : Calls Tryz.prog 101 #[.string t] w (PRes w (parseB (txt t))) := by
 obtain ⟨wA, hwA⟩ : ∃ wA, wA = w.alloc (.cells #[.int .i64 0, .int .i64 0, .slice none 0 0] 148) := ⟨_, rfl⟩
 have hEA : Ext w wA := by rw [hwA]; exact Ext.alloc _ _
 obtain ⟨g6, hg6⟩ : ∃ g, g = w.heap.size := ⟨_, rfl⟩
 have hbA : Blk wA g6 148 [.int .i64 0, .int .i64 0, .slice none 0 0] := by rw [hg6, hwA]; exact Blk.alloc _ _ _
 have HWA := Lib.hid hwA; clear hwA
 have HE := Lib.hid hE; clear hE
 have HS6 := Lib.hid (fun (W : World) (i : Nat) (v : Value) (h : Ext w W) => h.setCell (c := g6) (Nat.le_of_eq hg6.symm) i v)
 have hsz := txt_size t
 have HP := Lib.hid (parseB_form (txt t))
 generalize parseB (txt t) = PB at *
 have HG6 := Lib.hid hg6
 go_enter Tryz.func101, Tryz.ntmps101
 go_upto_region 1 with fail
 rw [← HWA.out]
 rw [← hg6]
 clear hg6
 by_cases h30 : 30 < t.size
 ·have HN : Hid (PB = none) := Lib.hid (by rw [HP.out, if_pos (by omega)])
  have y0 := hbA.cell (i := 0) rfl
  have y1 := hbA.cell (i := 1) rfl
  have y2 := hbA.cell (i := 2) rfl
  have z0 := hbA.frozen 0
  have z1 := hbA.frozen 1
  have z2 := hbA.frozen 2
  go_wp2_with fail
  have hfin := HS6.out _ 2 (.slice none 0 0) (HS6.out _ 1 (.int .i64 0) (HS6.out _ 0 (.int .i64 0) hEA))
  have hbf := ((hbA.set 0 (.int .i64 0)).set 1 (.int .i64 0)).set 2 (.slice none 0 0)
  have r0 := hbf.cell (i := 0) (v := .int .i64 0) rfl
  have r1 := hbf.cell (i := 1) (v := .int .i64 0) rfl
  have r2 := hbf.cell (i := 2) (v := .slice none 0 0) rfl
  generalize World.setCell _ ⟨g6, 2, none⟩ _ = wF at *
  refine bodyPost_ret (v := .tuple #[.agg #[.int .i64 0, .int .i64 0, .slice none 0 0], .bool false]) (by simp [results, Tryz.results101, go_sem, r0, r1, r2]) rfl ?_
  exact ⟨hfin, by rw [HN.out]⟩
 ·have HCU := Lib.hid (cut_c t 32 wA (by omega))
  rw [if_neg (by omega)] at HP
  rw [show cutA (txt t) 32 = wordOf (txt t) from rfl, show cutR (txt t) 32 = restOf (txt t) from rfl, show cutF (txt t) 32 = moreOf (txt t) from rfl] at HCU
  have HFQ := Lib.hid (find_formsQ (wordOf (txt t)))
  have hRl : (restOf (txt t)).length ≤ t.size := by unfold restOf; rw [List.length_drop]; omega
  generalize wordOf (txt t) = A at *
  generalize restOf (txt t) = R at *
  generalize moreOf (txt t) = M at *
  go_wp2_with fail
  refine HCU.out.mono ?_; rintro e w1 ⟨rfl, hx1⟩
  go_wp2_with fail
  refine (forms_c w1).mono ?_; rintro e w2 ⟨rfl, hx2, hm2⟩
  have hlk := run_lookupF hm2 (ofBs A)
  rw [HFQ.out.1, HFQ.out.2] at hlk
  have hX2 := hEA.trans (hx1.trans hx2)
  have hb2 := hbA.ext (hx1.trans hx2)
  clear hm2
  unfold ofBs at hlk
  cases hfo : formOf A with
  | none =>
   have HN : Hid (PB = none) := Lib.hid (by rw [HP.out, hfo])
   rw [hfo] at hlk
   simp only [encF, Option.isSome_none, Option.getD_none] at hlk
   have hb3 := hb2.ext (Ext.alloc w2 (.cells #[.int .i64 0, .int .i64 0] 206))
   have hX3 := hX2.trans (Ext.alloc w2 (.cells #[.int .i64 0, .int .i64 0] 206))
   have y0 := hb3.cell (i := 0) rfl
   have y1 := hb3.cell (i := 1) rfl
   have y2 := hb3.cell (i := 2) rfl
   have z0 := hb3.frozen 0
   have z1 := hb3.frozen 1
   have z2 := hb3.frozen 2
   go_wp2_with fail
   have hfin := HS6.out _ 2 (.slice none 0 0) (HS6.out _ 1 (.int .i64 0) (HS6.out _ 0 (.int .i64 0) hX3))
   have hbf := ((hb3.set 0 (.int .i64 0)).set 1 (.int .i64 0)).set 2 (.slice none 0 0)
   have r0 := hbf.cell (i := 0) (v := .int .i64 0) rfl
   have r1 := hbf.cell (i := 1) (v := .int .i64 0) rfl
   have r2 := hbf.cell (i := 2) (v := .slice none 0 0) rfl
   generalize World.setCell _ ⟨g6, 2, none⟩ _ = wF at *
   refine bodyPost_ret (v := .tuple #[.agg #[.int .i64 0, .int .i64 0, .slice none 0 0], .bool false]) (by simp [results, Tryz.results101, go_sem, r0, r1, r2]) rfl ?_
   exact ⟨hfin, by rw [HN.out]⟩
  | some kw =>
   obtain ⟨k, wh⟩ := kw
   have hfc := formOf_cases hfo
   rw [hfo] at HP hlk
   simp only [encF, Option.isSome_some, Option.getD_some] at hlk HP
   clear hfo
   have hb3 := hb2.ext (Ext.alloc w2 (.cells #[.int .i64 k, .int .i64 wh] 206))
   have hX3 := hX2.trans (Ext.alloc w2 (.cells #[.int .i64 k, .int .i64 wh] 206))
   have hb7 := Blk.alloc w2 #[.int .i64 k, .int .i64 wh] 206
   go_upto_region 5 with fail
   clear hlk
   generalize w2.alloc (.cells #[.int .i64 k, .int .i64 wh] 206) = w3 at *
   generalize w2.heap.size = g7 at *
   clear hb2 hX2
   have hX4 := hX3.trans (Ext.alloc w3 (.cells #[.int .i64 k, .int .i64 0, .slice none 0 0] 148))
   have hb4 := hb3.ext (Ext.alloc w3 (.cells #[.int .i64 k, .int .i64 0, .slice none 0 0] 148))
   have hq7 := hb7.ext (Ext.alloc w3 (.cells #[.int .i64 k, .int .i64 0, .slice none 0 0] 148))
   have hb9 := Blk.alloc w3 #[.int .i64 k, .int .i64 0, .slice none 0 0] 148
   have f0 := hb7.cell (i := 0) rfl
   have f1 := hb7.cell (i := 1) rfl
   have F0 := hq7.cell (i := 0) rfl
   have F1 := hq7.cell (i := 1) rfl
   have hl3 := hb3.lt
   have hl7 := hb7.lt
   have hg9 : w.heap.size ≤ w3.heap.size := hX3.size
   rcases hfc with ⟨rfl, hk1, hk2⟩ | ⟨rfl, hk1, hk2⟩ | ⟨rfl, rfl⟩
   ·have HC := Lib.hid (cmdOf_none hk1 hk2)
    cases M
    ·have HN : Hid (PB = some (cmdOf k 0 [])) := Lib.hid (by rw [HP.out]; rfl)
     go_upto_region 8 with fail
     generalize w3.alloc (.cells #[.int .i64 k, .int .i64 0, .slice none 0 0] 148) = w4 at *
     generalize w3.heap.size = g9 at *
     have e0 := hb9.cell (i := 0) rfl
     have e1 := hb9.cell (i := 1) rfl
     have e2 := hb9.cell (i := 2) rfl
     have E0 := hb9.frozen 0
     have E1 := hb9.frozen 1
     have E2 := hb9.frozen 2
     have y0 := hb4.cell (i := 0) rfl
     have y1 := hb4.cell (i := 1) rfl
     have y2 := hb4.cell (i := 2) rfl
     have z0 := hb4.frozen 0
     have z1 := hb4.frozen 1
     have z2 := hb4.frozen 2
     go_wp2_with fail
     have hfin := HS6.out _ 2 (.slice none 0 0) (HS6.out _ 1 (.int .i64 0) (HS6.out _ 0 (.int .i64 k) hX4))
     have hbf := ((hb4.set 0 (.int .i64 k)).set 1 (.int .i64 0)).set 2 (.slice none 0 0)
     have r0 := hbf.cell (i := 0) (v := .int .i64 k) rfl
     have r1 := hbf.cell (i := 1) (v := .int .i64 0) rfl
     have r2 := hbf.cell (i := 2) (v := .slice none 0 0) rfl
     generalize World.setCell _ ⟨g6, 2, none⟩ _ = wF at *
     refine bodyPost_ret (v := .tuple #[.agg #[.int .i64 k, .int .i64 0, .slice none 0 0], .bool true]) (by simp [results, Tryz.results101, go_sem, r0, r1, r2]) rfl ?_
     exact ⟨hfin, by rw [HN.out]; exact ⟨_, by rw [HC.out.1, HC.out.2.1]; rfl, by rw [HC.out.2.2]; exact OInts.nil _ _ _⟩⟩
    ·have HN : Hid (PB = none) := Lib.hid (by rw [HP.out]; rfl)
     clear hX4 hb4 hb9 hq7
     have y0 := hb3.cell (i := 0) rfl
     have y1 := hb3.cell (i := 1) rfl
     have y2 := hb3.cell (i := 2) rfl
     have z0 := hb3.frozen 0
     have z1 := hb3.frozen 1
     have z2 := hb3.frozen 2
     go_wp2_with fail
     have hfin := HS6.out _ 2 (.slice none 0 0) (HS6.out _ 1 (.int .i64 0) (HS6.out _ 0 (.int .i64 0) hX3))
     have hbf := ((hb3.set 0 (.int .i64 0)).set 1 (.int .i64 0)).set 2 (.slice none 0 0)
     have r0 := hbf.cell (i := 0) (v := .int .i64 0) rfl
     have r1 := hbf.cell (i := 1) (v := .int .i64 0) rfl
     have r2 := hbf.cell (i := 2) (v := .slice none 0 0) rfl
     generalize World.setCell _ ⟨g6, 2, none⟩ _ = wF at *
     refine bodyPost_ret (v := .tuple #[.agg #[.int .i64 0, .int .i64 0, .slice none 0 0], .bool false]) (by simp [results, Tryz.results101, go_sem, r0, r1, r2]) rfl ?_
     exact ⟨hfin, by rw [HN.out]⟩
   ·have HC := Lib.hid (fun n => cmdOf_num n hk1 hk2)
    cases M
    ·have HN : Hid (PB = none) := Lib.hid (by rw [HP.out]; rfl)
     clear hX4 hb4 hb9 hq7
     have y0 := hb3.cell (i := 0) rfl
     have y1 := hb3.cell (i := 1) rfl
     have y2 := hb3.cell (i := 2) rfl
     have z0 := hb3.frozen 0
     have z1 := hb3.frozen 1
     have z2 := hb3.frozen 2
     go_wp2_with fail
     have hfin := HS6.out _ 2 (.slice none 0 0) (HS6.out _ 1 (.int .i64 0) (HS6.out _ 0 (.int .i64 0) hX3))
     have hbf := ((hb3.set 0 (.int .i64 0)).set 1 (.int .i64 0)).set 2 (.slice none 0 0)
     have r0 := hbf.cell (i := 0) (v := .int .i64 0) rfl
     have r1 := hbf.cell (i := 1) (v := .int .i64 0) rfl
     have r2 := hbf.cell (i := 2) (v := .slice none 0 0) rfl
     generalize World.setCell _ ⟨g6, 2, none⟩ _ = wF at *
     refine bodyPost_ret (v := .tuple #[.agg #[.int .i64 0, .int .i64 0, .slice none 0 0], .bool false]) (by simp [results, Tryz.results101, go_sem, r0, r1, r2]) rfl ?_
     exact ⟨hfin, by rw [HN.out]⟩
    ·go_upto_region 8 with fail
     generalize w3.alloc (.cells #[.int .i64 k, .int .i64 0, .slice none 0 0] 148) = w4 at *
     generalize w3.heap.size = g9 at *
     have e0 := hb9.cell (i := 0) rfl
     have e1 := hb9.cell (i := 1) rfl
     have e2 := hb9.cell (i := 2) rfl
     have E0 := hb9.frozen 0
     have E1 := hb9.frozen 1
     have E2 := hb9.frozen 2
     have hne : g9 ≠ g6 := by omega
     have HAT := Lib.hid (atoi_c R w4 (HE.out.ext hX4) (by omega))
     have HNP := Lib.hid (numP_eq R)
     have HPN : Hid (PB = (numP R).map (fun n => cmdOf k n [])) := Lib.hid (by rw [HP.out, HNP.out]; rfl)
     unfold numP at HPN
     go_wp2_with fail
     cases hat : Lib.atoiAll R with
     | ok n =>
      rw [hat] at HAT HPN
      simp only at HAT HPN
      refine HAT.out.mono ?_; rintro e w5 ⟨hx5, rfl⟩
      have hX5 := hX4.trans hx5
      have hrg := atoi_range hat
      clear hat
      have HIT := Lib.hid (Itoa_c n w5 (HE.out.ext hX5) hrg.1 hrg.2)
      generalize Lib.itoa n = I at *
      by_cases hI : I = R
      ·subst hI
       by_cases hn0 : n < 0
       ·have HN : Hid (PB = none) := Lib.hid (by rw [HPN.out, if_neg (by omega)]; rfl)
        go_wp2_with fail
        refine HIT.out.mono ?_; rintro e w6 ⟨rfl, hx6⟩
        have hX6 := hX5.trans hx6
        have hb6 := hb4.ext (hx5.trans hx6)
        have y0 := hb6.cell (i := 0) rfl
        have y1 := hb6.cell (i := 1) rfl
        have y2 := hb6.cell (i := 2) rfl
        have z0 := hb6.frozen 0
        have z1 := hb6.frozen 1
        have z2 := hb6.frozen 2
        go_wp2_with fail
        have hfin := HS6.out _ 2 (.slice none 0 0) (HS6.out _ 1 (.int .i64 0) (HS6.out _ 0 (.int .i64 0) hX6))
        have hbf := ((hb6.set 0 (.int .i64 0)).set 1 (.int .i64 0)).set 2 (.slice none 0 0)
        have r0 := hbf.cell (i := 0) (v := .int .i64 0) rfl
        have r1 := hbf.cell (i := 1) (v := .int .i64 0) rfl
        have r2 := hbf.cell (i := 2) (v := .slice none 0 0) rfl
        generalize World.setCell _ ⟨g6, 2, none⟩ _ = wF at *
        refine bodyPost_ret (v := .tuple #[.agg #[.int .i64 0, .int .i64 0, .slice none 0 0], .bool false]) (by simp [results, Tryz.results101, go_sem, r0, r1, r2]) rfl ?_
        exact ⟨hfin, by rw [HN.out]⟩
       ·by_cases hn9 : 99 < n
        ·have HN : Hid (PB = none) := Lib.hid (by rw [HPN.out, if_neg (by omega)]; rfl)
         go_wp2_with fail
         refine HIT.out.mono ?_; rintro e w6 ⟨rfl, hx6⟩
         have hX6 := hX5.trans hx6
         have hb6 := hb4.ext (hx5.trans hx6)
         have y0 := hb6.cell (i := 0) rfl
         have y1 := hb6.cell (i := 1) rfl
         have y2 := hb6.cell (i := 2) rfl
         have z0 := hb6.frozen 0
         have z1 := hb6.frozen 1
         have z2 := hb6.frozen 2
         go_wp2_with fail
         have hfin := HS6.out _ 2 (.slice none 0 0) (HS6.out _ 1 (.int .i64 0) (HS6.out _ 0 (.int .i64 0) hX6))
         have hbf := ((hb6.set 0 (.int .i64 0)).set 1 (.int .i64 0)).set 2 (.slice none 0 0)
         have r0 := hbf.cell (i := 0) (v := .int .i64 0) rfl
         have r1 := hbf.cell (i := 1) (v := .int .i64 0) rfl
         have r2 := hbf.cell (i := 2) (v := .slice none 0 0) rfl
         generalize World.setCell _ ⟨g6, 2, none⟩ _ = wF at *
         refine bodyPost_ret (v := .tuple #[.agg #[.int .i64 0, .int .i64 0, .slice none 0 0], .bool false]) (by simp [results, Tryz.results101, go_sem, r0, r1, r2]) rfl ?_
         exact ⟨hfin, by rw [HN.out]⟩
        ·have HN : Hid (PB = some (cmdOf k n.toNat [])) := Lib.hid (by rw [HPN.out, if_pos ⟨rfl, by omega, by omega⟩]; rfl)
         have HC2 := Lib.hid (HC.out n.toNat)
         have HTN := Lib.hid (show ((n.toNat : Nat) : Int) = n by omega)
         go_wp2_with fail
         refine HIT.out.mono ?_; rintro e w6 ⟨rfl, hx6⟩
         have hX6 := hX5.trans hx6
         have hb6 := hb4.ext (hx5.trans hx6)
         have hb96 := hb9.ext (hx5.trans hx6)
         have E1' := hb96.frozen 1
         replace e1 := hb96.cell (i := 1) rfl
         have hb97 := hb96.set 1 (.int .i64 n)
         have q0 := hb97.cell (i := 0) (v := .int .i64 k) rfl
         have q1 := hb97.cell (i := 1) (v := .int .i64 n) rfl
         have q2 := hb97.cell (i := 2) (v := .slice none 0 0) rfl
         have hb67 := hb6.other hne 1 (.int .i64 n)
         have hX7 := hX6.setCell (c := g9) hg9 1 (.int .i64 n)
         have y0 := hb67.cell (i := 0) rfl
         have y1 := hb67.cell (i := 1) rfl
         have y2 := hb67.cell (i := 2) rfl
         have z0 := hb67.frozen 0
         have z1 := hb67.frozen 1
         have z2 := hb67.frozen 2
         go_wp2_with fail
         have hfin := HS6.out _ 2 (.slice none 0 0) (HS6.out _ 1 (.int .i64 n) (HS6.out _ 0 (.int .i64 k) hX7))
         have hbf := ((hb67.set 0 (.int .i64 k)).set 1 (.int .i64 n)).set 2 (.slice none 0 0)
         have r0 := hbf.cell (i := 0) (v := .int .i64 k) rfl
         have r1 := hbf.cell (i := 1) (v := .int .i64 n) rfl
         have r2 := hbf.cell (i := 2) (v := .slice none 0 0) rfl
         generalize World.setCell _ ⟨g6, 2, none⟩ _ = wF at *
         refine bodyPost_ret (v := .tuple #[.agg #[.int .i64 k, .int .i64 n, .slice none 0 0], .bool true]) (by simp [results, Tryz.results101, go_sem, r0, r1, r2]) rfl ?_
         exact ⟨hfin, by rw [HN.out]; exact ⟨_, by rw [HC2.out.1, HC2.out.2.1, HTN.out], by rw [HC2.out.2.2]; exact OInts.nil _ _ _⟩⟩
      ·have hIR : (I == R) = false := by simpa using hI
       have HN : Hid (PB = none) := Lib.hid (by rw [HPN.out, if_neg (fun h => hI h.1)]; rfl)
       clear hI
       go_wp2_with fail
       refine HIT.out.mono ?_; rintro e w6 ⟨rfl, hx6⟩
       have hX6 := hX5.trans hx6
       have hb6 := hb4.ext (hx5.trans hx6)
       have y0 := hb6.cell (i := 0) rfl
       have y1 := hb6.cell (i := 1) rfl
       have y2 := hb6.cell (i := 2) rfl
       have z0 := hb6.frozen 0
       have z1 := hb6.frozen 1
       have z2 := hb6.frozen 2
       go_wp2_with fail
       have hfin := HS6.out _ 2 (.slice none 0 0) (HS6.out _ 1 (.int .i64 0) (HS6.out _ 0 (.int .i64 0) hX6))
       have hbf := ((hb6.set 0 (.int .i64 0)).set 1 (.int .i64 0)).set 2 (.slice none 0 0)
       have r0 := hbf.cell (i := 0) (v := .int .i64 0) rfl
       have r1 := hbf.cell (i := 1) (v := .int .i64 0) rfl
       have r2 := hbf.cell (i := 2) (v := .slice none 0 0) rfl
       generalize World.setCell _ ⟨g6, 2, none⟩ _ = wF at *
       refine bodyPost_ret (v := .tuple #[.agg #[.int .i64 0, .int .i64 0, .slice none 0 0], .bool false]) (by simp [results, Tryz.results101, go_sem, r0, r1, r2]) rfl ?_
       exact ⟨hfin, by rw [HN.out]⟩
     | range =>
      rw [hat] at HAT HPN
      simp only at HAT HPN
      refine HAT.out.mono ?_; rintro e w5 ⟨hx5, n, ty, p, rfl⟩
      have HN : Hid (PB = none) := Lib.hid HPN.out
      have hX5 := hX4.trans hx5
      have hb5 := hb4.ext hx5
      have y0 := hb5.cell (i := 0) rfl
      have y1 := hb5.cell (i := 1) rfl
      have y2 := hb5.cell (i := 2) rfl
      have z0 := hb5.frozen 0
      have z1 := hb5.frozen 1
      have z2 := hb5.frozen 2
      go_wp2_with fail
      have hfin := HS6.out _ 2 (.slice none 0 0) (HS6.out _ 1 (.int .i64 0) (HS6.out _ 0 (.int .i64 0) hX5))
      have hbf := ((hb5.set 0 (.int .i64 0)).set 1 (.int .i64 0)).set 2 (.slice none 0 0)
      have r0 := hbf.cell (i := 0) (v := .int .i64 0) rfl
      have r1 := hbf.cell (i := 1) (v := .int .i64 0) rfl
      have r2 := hbf.cell (i := 2) (v := .slice none 0 0) rfl
      generalize World.setCell _ ⟨g6, 2, none⟩ _ = wF at *
      refine bodyPost_ret (v := .tuple #[.agg #[.int .i64 0, .int .i64 0, .slice none 0 0], .bool false]) (by simp [results, Tryz.results101, go_sem, r0, r1, r2]) rfl ?_
      exact ⟨hfin, by rw [HN.out]⟩
     | _ =>
      rw [hat] at HAT HPN
      simp only at HAT HPN
      refine HAT.out.mono ?_; rintro e w5 ⟨hx5, n, ty, p, rfl⟩
      have HN : Hid (PB = none) := Lib.hid HPN.out
      have hX5 := hX4.trans hx5
      have hb5 := hb4.ext hx5
      have y0 := hb5.cell (i := 0) rfl
      have y1 := hb5.cell (i := 1) rfl
      have y2 := hb5.cell (i := 2) rfl
      have z0 := hb5.frozen 0
      have z1 := hb5.frozen 1
      have z2 := hb5.frozen 2
      go_wp2_with fail
      have hfin := HS6.out _ 2 (.slice none 0 0) (HS6.out _ 1 (.int .i64 0) (HS6.out _ 0 (.int .i64 0) hX5))
      have hbf := ((hb5.set 0 (.int .i64 0)).set 1 (.int .i64 0)).set 2 (.slice none 0 0)
      have r0 := hbf.cell (i := 0) (v := .int .i64 0) rfl
      have r1 := hbf.cell (i := 1) (v := .int .i64 0) rfl
      have r2 := hbf.cell (i := 2) (v := .slice none 0 0) rfl
      generalize World.setCell _ ⟨g6, 2, none⟩ _ = wF at *
      refine bodyPost_ret (v := .tuple #[.agg #[.int .i64 0, .int .i64 0, .slice none 0 0], .bool false]) (by simp [results, Tryz.results101, go_sem, r0, r1, r2]) rfl ?_
      exact ⟨hfin, by rw [HN.out]⟩
   ·cases M
    ·have HN : Hid (PB = none) := Lib.hid (by rw [HP.out]; rfl)
     clear hX4 hb4 hb9 hq7
     have y0 := hb3.cell (i := 0) rfl
     have y1 := hb3.cell (i := 1) rfl
     have y2 := hb3.cell (i := 2) rfl
     have z0 := hb3.frozen 0
     have z1 := hb3.frozen 1
     have z2 := hb3.frozen 2
     go_wp2_with fail
     have hfin := HS6.out _ 2 (.slice none 0 0) (HS6.out _ 1 (.int .i64 0) (HS6.out _ 0 (.int .i64 0) hX3))
     have hbf := ((hb3.set 0 (.int .i64 0)).set 1 (.int .i64 0)).set 2 (.slice none 0 0)
     have r0 := hbf.cell (i := 0) (v := .int .i64 0) rfl
     have r1 := hbf.cell (i := 1) (v := .int .i64 0) rfl
     have r2 := hbf.cell (i := 2) (v := .slice none 0 0) rfl
     generalize World.setCell _ ⟨g6, 2, none⟩ _ = wF at *
     refine bodyPost_ret (v := .tuple #[.agg #[.int .i64 0, .int .i64 0, .slice none 0 0], .bool false]) (by simp [results, Tryz.results101, go_sem, r0, r1, r2]) rfl ?_
     exact ⟨hfin, by rw [HN.out]⟩
    ·go_upto_region 8 with fail
     generalize w3.alloc (.cells #[.int .i64 3, .int .i64 0, .slice none 0 0] 148) = w4 at *
     generalize w3.heap.size = g9 at *
     have e0 := hb9.cell (i := 0) rfl
     have e1 := hb9.cell (i := 1) rfl
     have e2 := hb9.cell (i := 2) rfl
     have E0 := hb9.frozen 0
     have E1 := hb9.frozen 1
     have E2 := hb9.frozen 2
     have hne : g9 ≠ g6 := by omega
     have HSP := Lib.hid (spelled_c (ofBs R) w4)
     rw [txt_of] at HSP
     unfold ofBs at HSP
     have HPN : Hid (PB = (sndOf R).map (fun w => cmdOf 3 0 w)) := Lib.hid (by rw [HP.out]; rfl)
     go_wp2_with fail
     refine HSP.out.mono ?_; rintro e w5 ⟨v5, rfl, ho5, hx5⟩
     have hX5 := hX4.trans hx5
     obtain ⟨a5, c5, rfl, _⟩ := ho5.ints.open_
     have HO5 := Lib.hid ho5
     replace e0 := hx5.keep e0
     replace e1 := hx5.keep e1
     replace e2 := hx5.keep e2
     have hb9' := hb9.ext hx5
     have E2 := hb9'.frozen 2
     generalize sndOf R = SO at *
     cases SO with
     | none =>
      have HN : Hid (PB = none) := Lib.hid (by rw [HPN.out]; rfl)
      simp only [Option.isSome_none, Option.getD_none, List.length_nil] at HO5 ⊢
      have hb97 := hb9'.set 2 (.slice a5 (0) c5)
      have q0 := hb97.cell (i := 0) (v := .int .i64 3) rfl
      have q1 := hb97.cell (i := 1) (v := .int .i64 0) rfl
      have q2 := hb97.cell (i := 2) (v := .slice a5 (0) c5) rfl
      have hb67 := (hb4.ext hx5).other hne 2 (.slice a5 (0) c5)
      have hX7 := hX5.setCell (c := g9) hg9 2 (.slice a5 (0) c5)
      have HO7 := Lib.hid (HO5.out.setB (i := 2) (v := .slice a5 (0) c5) hb9' (by decide))
      have y0 := hb67.cell (i := 0) rfl
      have y1 := hb67.cell (i := 1) rfl
      have y2 := hb67.cell (i := 2) rfl
      have z0 := hb67.frozen 0
      have z1 := hb67.frozen 1
      have z2 := hb67.frozen 2
      go_wp2_with fail
      have hfin := HS6.out _ 2 (.slice none 0 0) (HS6.out _ 1 (.int .i64 0) (HS6.out _ 0 (.int .i64 0) hX7))
      have hbf := ((hb67.set 0 (.int .i64 0)).set 1 (.int .i64 0)).set 2 (.slice none 0 0)
      have r0 := hbf.cell (i := 0) (v := .int .i64 0) rfl
      have r1 := hbf.cell (i := 1) (v := .int .i64 0) rfl
      have r2 := hbf.cell (i := 2) (v := .slice none 0 0) rfl
      generalize World.setCell _ ⟨g6, 2, none⟩ _ = wF at *
      refine bodyPost_ret (v := .tuple #[.agg #[.int .i64 0, .int .i64 0, .slice none 0 0], .bool false]) (by simp [results, Tryz.results101, go_sem, r0, r1, r2]) rfl ?_
      exact ⟨hfin, by rw [HN.out]⟩
     | some l =>
      have HN : Hid (PB = some (cmdOf 3 0 l)) := Lib.hid (by rw [HPN.out]; rfl)
      have HC := Lib.hid (cmdOf_read l)
      simp only [Option.isSome_some, Option.getD_some] at HO5 ⊢
      have hb97 := hb9'.set 2 (.slice a5 (l.length) c5)
      have q0 := hb97.cell (i := 0) (v := .int .i64 3) rfl
      have q1 := hb97.cell (i := 1) (v := .int .i64 0) rfl
      have q2 := hb97.cell (i := 2) (v := .slice a5 (l.length) c5) rfl
      have hb67 := (hb4.ext hx5).other hne 2 (.slice a5 (l.length) c5)
      have hX7 := hX5.setCell (c := g9) hg9 2 (.slice a5 (l.length) c5)
      have HO7 := Lib.hid (HO5.out.setB (i := 2) (v := .slice a5 (l.length) c5) hb9' (by decide))
      have y0 := hb67.cell (i := 0) rfl
      have y1 := hb67.cell (i := 1) rfl
      have y2 := hb67.cell (i := 2) rfl
      have z0 := hb67.frozen 0
      have z1 := hb67.frozen 1
      have z2 := hb67.frozen 2
      have HO8 := Lib.hid (((HO7.out.setB (i := 0) (v := .int .i64 3) hb67 (by decide)).setB (i := 1) (v := .int .i64 0) (hb67.set 0 _) (by decide)).setB (i := 2) (v := .slice a5 l.length c5) ((hb67.set 0 _).set 1 _) (by decide))
      have hBB := hX4.size
      go_wp2_with fail
      have hfin := HS6.out _ 2 (.slice a5 l.length c5) (HS6.out _ 1 (.int .i64 0) (HS6.out _ 0 (.int .i64 3) hX7))
      have hbf := ((hb67.set 0 (.int .i64 3)).set 1 (.int .i64 0)).set 2 (.slice a5 l.length c5)
      have r0 := hbf.cell (i := 0) (v := .int .i64 3) rfl
      have r1 := hbf.cell (i := 1) (v := .int .i64 0) rfl
      have r2 := hbf.cell (i := 2) (v := .slice a5 l.length c5) rfl
      generalize World.setCell _ ⟨g6, 2, none⟩ _ = wF at *
      refine bodyPost_ret (v := .tuple #[.agg #[.int .i64 3, .int .i64 0, .slice a5 l.length c5], .bool true]) (by simp [results, Tryz.results101, go_sem, r0, r1, r2]) rfl ?_
      exact ⟨hfin, by rw [HN.out]; exact ⟨_, by rw [HC.out.1, HC.out.2.1]; rfl, by rw [HC.out.2.2]; exact HO8.out.low hBB⟩⟩
end Go.Proofs.YtpmlcfgbfhgpgaaGreatDoor
/- errors.As at the target *school.refused: by Go's own text, after the kit's worked example of a pointer target. -/
namespace Go.Proofs.YtpmlcfgbfhgpgaaGreatDoor
open Go.RowKit Go.Shelf Go.Extern.Stop Go.Stop Go.Extern
set_option linter.unusedVariables false
theorem asNil_c (t : Value) (w : World) : Calls Tryz.prog 100 #[.nilIface, t] w fun e w' => e = .returned (.bool false) ∧ w' = w := by
 go_enter Tryz.func100, Tryz.ntmps100
 go_wp2_with fail
 go_ret
 exact ⟨rfl, rfl⟩
theorem As.valueOfP (t : Addr) (w : World) : (ReflectliteValue.unpack (.iface 145 (.pointer (some t)))).run Tryz.prog w
  = .ok (.agg #[.pointer (some ⟨7, 145, none⟩), .pointer (some ⟨w.heap.size, 0, none⟩), .int .u64 150]) (w.alloc (.cells #[.pointer (some t)] 145)) := by kernel_rfl
theorem As.typeP (a : Addr) (w : World) : (ReflectliteValue.methodAny (ReflectliteValue.valueError "reflectlite.Value.Type" 0) (fun t _ _ _ => ReflectliteType.toType t) #[.agg #[.pointer (some ⟨7, 145, none⟩), .pointer (some a), .int .u64 150]]).run Tryz.prog w
  = .ok (.iface 238 (.agg #[.pointer (some ⟨7, 145, none⟩)])) w := by kernel_rfl
theorem As.methodKind (h : Value) (w : World) : (Go.method 444 238 (.agg #[h]) "Kind").run Tryz.prog w = .ok (287, h) w := by kernel_rfl
theorem As.kindP (w : World) : ((ReflectliteType.abiMethod fun t => (fun a : Nat => Value.int IntKind.u8 (a : Int)) <$> Rtype.kind t) #[.pointer (some ⟨7, 145, none⟩)]).run Tryz.prog w = .ok (.int .u8 22) w := by kernel_rfl
theorem As.kindS (w : World) : ((ReflectliteType.abiMethod fun t => (fun a : Nat => Value.int IntKind.u8 (a : Int)) <$> Rtype.kind t) #[.pointer (some ⟨7, 143, none⟩)]).run Tryz.prog w = .ok (.int .u8 25) w := by kernel_rfl
theorem As.rlm (z : Sem Value) (f : TypeId → Addr → Nat → Nat → Sem Value) (v : Value) :
  ReflectliteValue.method z f #[v] = (do match ← ReflectliteValue.parts v with | none => z | some (t, a, fl) => f t a fl (fl % 32)) := rfl
theorem As.partsP (a : Addr) (w : World) : (ReflectliteValue.parts (.agg #[.pointer (some ⟨7, 145, none⟩), .pointer (some a), .int .u64 150])).run Tryz.prog w = .ok (some (145, a, 150)) w := by kernel_rfl
theorem As.isNilP (a p : Addr) (W : World) (ha : W.cell? a = some (.pointer (some p))) :
  (ReflectliteValue.method (ReflectliteValue.valueError "reflectlite.Value.IsNil" 0) ReflectliteValue.isNil #[.agg #[.pointer (some ⟨7, 145, none⟩), .pointer (some a), .int .u64 150]]).run Tryz.prog W = .ok (.bool false) W := by
 rw [As.rlm]
 simp only [Sem.run_bind, As.partsP, Result.andThen]
 simp [ReflectliteValue.isNil, loadVar, isAgg, underlying, Tryz.underlying145, ha, Result.andThen]
theorem As.methodElem (h : Value) (w : World) : (Go.method 444 238 (.agg #[h]) "Elem").run Tryz.prog w = .ok (298, .agg #[h]) w := by kernel_rfl
theorem As.methodImplements (h : Value) (w : World) : (Go.method 444 238 (.agg #[h]) "Implements").run Tryz.prog w = .ok (299, .agg #[h]) w := by kernel_rfl
theorem As.methodAssignableTo (h : Value) (w : World) : (Go.method 444 238 (.agg #[h]) "AssignableTo").run Tryz.prog w = .ok (296, .agg #[h]) w := by kernel_rfl
theorem As.elemP (w : World) : (ReflectliteType.method ReflectliteType.elem #[.agg #[.pointer (some ⟨7, 145, none⟩)]]).run Tryz.prog w = .ok (.iface 238 (.agg #[.pointer (some ⟨7, 143, none⟩)])) w := by kernel_rfl
theorem As.implementsS (w : World) : (ReflectliteType.relation "Implements" ReflectliteType.implements_ #[.agg #[.pointer (some ⟨7, 143, none⟩)], .iface 238 (.agg #[.pointer (some ⟨7, 111, none⟩)])]).run Tryz.prog w = .ok (.bool true) w := by kernel_rfl
theorem As.typeOfS (v : Value) (w : World) : (ReflectliteType.typeOf #[.iface 143 v]).run Tryz.prog w = .ok (.iface 238 (.agg #[.pointer (some ⟨7, 143, none⟩)])) w := by kernel_rfl
theorem As.assignableS (w : World) : (ReflectliteType.relation "AssignableTo" ReflectliteType.assignableTo #[.agg #[.pointer (some ⟨7, 143, none⟩)], .iface 238 (.agg #[.pointer (some ⟨7, 143, none⟩)])]).run Tryz.prog w = .ok (.bool true) w := by kernel_rfl
theorem As.valueOfS (r : Int) (w : World) : (ReflectliteValue.unpack (.iface 143 (.agg #[.int .i64 r]))).run Tryz.prog w
  = .ok (.agg #[.pointer (some ⟨7, 143, none⟩), .pointer (some ⟨w.heap.size, 0, none⟩), .int .u64 153]) (w.alloc (.cells #[.int .i64 r] 143)) := by kernel_rfl
theorem As.elemOfP (w : World) : (Rtype.elem? 145).run Tryz.prog w = .ok (some 143) w := by kernel_rfl
theorem As.mkS (p : Addr) (w : World) : (ReflectliteValue.mk 143 p ReflectliteValue.flagAddr).run Tryz.prog w = .ok (.agg #[.pointer (some ⟨7, 143, none⟩), .pointer (some p), .int .u64 409]) w := by kernel_rfl
theorem As.elemVP (a p : Addr) (W : World) (ha : W.cell? a = some (.pointer (some p))) :
  (ReflectliteValue.method (ReflectliteValue.valueError "reflectlite.Value.Elem" 0) ReflectliteValue.elem #[.agg #[.pointer (some ⟨7, 145, none⟩), .pointer (some a), .int .u64 150]]).run Tryz.prog W
   = .ok (.agg #[.pointer (some ⟨7, 143, none⟩), .pointer (some p), .int .u64 409]) W := by
 rw [As.rlm]
 simp only [Sem.run_bind, As.partsP, Result.andThen]
 simp [ReflectliteValue.elem, loadVar, isAgg, underlying, Tryz.underlying145, ha, Result.andThen, As.elemOfP, As.mkS]
theorem As.rls (v x : Value) : ReflectliteValue.set #[v, x] = (do
  let (some (dst, a, fl), some (src, b, _)) := (← ReflectliteValue.parts v, ← ReflectliteValue.parts x)
   | unsupported (.noEntry "extern/(internal/reflectlite.Value).Set.zeroValue")
  if fl / ReflectliteValue.flagAddr % 2 == 0 then unsupported (.noEntry "extern/(internal/reflectlite.Value).Set.unaddressable")
  let val ← loadVar src b
  if ← Rtype.directlyAssignable dst src then storeVar dst a val
  else if ← Rtype.implements dst src then
   if (← Rtype.kind src) == 20 then
    match val with
    | .nilIface => unsupported (.noEntry "extern/reflectlite: a nil value of one interface type handed on as a value of another")
    | _ => storeVar dst a val
   else storeVar dst a (.iface src val)
  else panicString ("reflectlite.Set: value of type " ++ (← Rtype.spelt src) ++ " is not assignable to type " ++ (← Rtype.spelt dst))
  pure (.tuple #[])) := rfl
theorem As.partsSa (a : Addr) (w : World) : (ReflectliteValue.parts (.agg #[.pointer (some ⟨7, 143, none⟩), .pointer (some a), .int .u64 409])).run Tryz.prog w = .ok (some (143, a, 409)) w := by kernel_rfl
theorem As.partsS (a : Addr) (w : World) : (ReflectliteValue.parts (.agg #[.pointer (some ⟨7, 143, none⟩), .pointer (some a), .int .u64 153])).run Tryz.prog w = .ok (some (143, a, 153)) w := by kernel_rfl
theorem As.directS (w : World) : (Rtype.directlyAssignable 143 143).run Tryz.prog w = .ok true w := by kernel_rfl
end Go.Proofs.YtpmlcfgbfhgpgaaGreatDoor
/- errors.As at an error of type school.refused; reason. -/
namespace Go.Proofs.YtpmlcfgbfhgpgaaGreatDoor
open Go.RowKit Go.Shelf Go.Extern.Stop Go.Stop Go.Extern
set_option linter.unusedVariables false
theorem As.setS (ta b : Addr) (r : Int) (old : Value) (W : World) (hb : W.cell? b = some (.int .i64 r)) (ht : W.cell? ta = some old) (hf : W.frozen? ta = false) :
  (ReflectliteValue.set #[.agg #[.pointer (some ⟨7, 143, none⟩), .pointer (some ta), .int .u64 409], .agg #[.pointer (some ⟨7, 143, none⟩), .pointer (some b), .int .u64 153]]).run Tryz.prog W
   = .ok (.tuple #[]) (W.setCell ta (.int .i64 r)) := by
 have hl : (loadVar 143 b).run Tryz.prog W = .ok (.agg #[.int .i64 r]) W := by
  have hagg : (isAgg 143).run Tryz.prog W = .ok true W := by kernel_rfl
  have hsz : (sizeOf 143).run Tryz.prog W = .ok 1 W := by kernel_rfl
  have hlc : (loadCells b 1).run Tryz.prog W = .ok #[.int .i64 r] W := by
   have := run_loadCells_list (P := Tryz.prog) (w := W) b [.int .i64 r] (fun j v hv => by
    cases j with
    | zero => (have hv2 : Value.int .i64 r = v := Option.some.inj hv); rw [← hv2]; exact hb
    | succ j => simp at hv)
   exact this
  unfold loadVar
  simp only [Sem.run_bind, hagg, hsz, hlc, Result.andThen, if_true, Sem.run_pure]
 have hsz : (sizeOf 143).run Tryz.prog W = .ok 1 W := by kernel_rfl
 rw [As.rls]
 simp only [Sem.run_bind, As.partsSa, As.partsS, Result.andThen]
 simp [ReflectliteValue.flagAddr, hl, Result.andThen, As.directS, storeVar, Value.cells, storeCells, Addr.add]
 rw [run_store Tryz.prog W ta _ _ (by rfl)]
 simp [ht, hf]
set_option maxHeartbeats 4000000 in
set_option maxRecDepth 100000 in
theorem asIn_c (r : Int) (t a : Addr) (old : Value) (w : World) (ha : w.cell? a = some (.pointer (some t))) (ht0 : w.cell? t = some old) (hf0 : w.frozen? t = false) :
  Calls Tryz.prog 147 #[.iface 143 (.agg #[.int .i64 r]), .iface 145 (.pointer (some t)), .agg #[.pointer (some ⟨7, 145, none⟩), .pointer (some a), .int .u64 150], .iface 238 (.agg #[.pointer (some ⟨7, 143, none⟩)])] w fun ev w' => ev = .returned (.bool true) ∧ w' = ((w.alloc (.cells #[.pointer (some ⟨7, 145, none⟩), .pointer (some a), .int .u64 150] 195)).alloc (.cells #[.int .i64 r] 143)).setCell t (.int .i64 r) := by
 have h6 := @run_callFunc_extern Tryz.prog 144 _ (fun args => ReflectliteValue.unpack (args.getD 0 (.tuple #[]))) Tryz.func144 (by kernel_rfl) (by kernel_rfl) (by kernel_rfl) (by kernel_rfl)
 have h7 := @run_callFunc_extern Tryz.prog 145 _ (ReflectliteValue.methodAny (ReflectliteValue.valueError "reflectlite.Value.Type" 0) (fun t _ _ _ => ReflectliteType.toType t)) Tryz.func145 (by kernel_rfl) (by kernel_rfl) (by kernel_rfl) (by kernel_rfl)
 have h8 := @run_callFunc_extern Tryz.prog 146 _ (ReflectliteValue.method (ReflectliteValue.valueError "reflectlite.Value.IsNil" 0) ReflectliteValue.isNil) Tryz.func146 (by kernel_rfl) (by kernel_rfl) (by kernel_rfl) (by kernel_rfl)
 have h27 := @run_callFunc_extern Tryz.prog 287 _ (ReflectliteType.abiMethod fun t => do pure (.int .u8 (← Rtype.kind t))) Tryz.func287 (by kernel_rfl) (by kernel_rfl) (by kernel_rfl) (by kernel_rfl)
 have h37 := @run_callFunc_extern Tryz.prog 298 _ (ReflectliteType.method ReflectliteType.elem) Tryz.func298 (by kernel_rfl) (by kernel_rfl) (by kernel_rfl) (by kernel_rfl)
 have h38 := @run_callFunc_extern Tryz.prog 299 _ (ReflectliteType.relation "Implements" ReflectliteType.implements_) Tryz.func299 (by kernel_rfl) (by kernel_rfl) (by kernel_rfl) (by kernel_rfl)
 have h10 := @run_callFunc_extern Tryz.prog 186 _ ReflectliteType.typeOf Tryz.func186 (by kernel_rfl) (by kernel_rfl) (by kernel_rfl) (by kernel_rfl)
 have h35 := @run_callFunc_extern Tryz.prog 296 _ (ReflectliteType.relation "AssignableTo" ReflectliteType.assignableTo) Tryz.func296 (by kernel_rfl) (by kernel_rfl) (by kernel_rfl) (by kernel_rfl)
 have h11 := @run_callFunc_extern Tryz.prog 187 _ (ReflectliteValue.method (ReflectliteValue.valueError "reflectlite.Value.Elem" 0) ReflectliteValue.elem) Tryz.func187 (by kernel_rfl) (by kernel_rfl) (by kernel_rfl) (by kernel_rfl)
 have h12 := @run_callFunc_extern Tryz.prog 188 _ ReflectliteValue.set Tryz.func188 (by kernel_rfl) (by kernel_rfl) (by kernel_rfl) (by kernel_rfl)
 have tO := As.typeOfS
 have mA := As.methodAssignableTo
 have a25 := As.assignableS
 have v25 := As.valueOfS
 have f6 := As.valueOfP
 have f7 := As.typeP
 have mK := As.methodKind
 have mE := As.methodElem
 have mI := As.methodImplements
 have k27 := As.kindP
 have k25 := As.kindS
 have e27 := As.elemP
 have i25 := As.implementsS
 have hlt : ∀ {b : Addr} {v : Value}, w.cell? b = some v → b.block < w.heap.size := fun {b v} hb => by
  rcases Nat.lt_or_ge b.block w.heap.size with h | h
  ·exact h
  ·simp [World.cell?, Array.getElem?_eq_none h] at hb
 have htl := hlt ht0
 have hal := hlt ha
 have el := As.elemVP a t (w.alloc (.cells #[.pointer (some ⟨7, 145, none⟩), .pointer (some a), .int .u64 150] 195)) (by rw [World.cell?_alloc_lt _ _ a hal]; exact ha)
 have st := As.setS t ⟨w.heap.size + 1, 0, none⟩ r old ((w.alloc (.cells #[.pointer (some ⟨7, 145, none⟩), .pointer (some a), .int .u64 150] 195)).alloc (.cells #[.int .i64 r] 143))
  (by rw [World.cell?_alloc_at _ _ _ _ (by simp)]; rfl)
  (by rw [World.cell?_alloc_lt _ _ t (by simp; omega), World.cell?_alloc_lt _ _ t htl]; exact ht0)
  (by rw [World.frozen?_alloc_old _ _ t (by simp; omega), World.frozen?_alloc_old _ _ t (Nat.ne_of_lt htl)]; exact hf0)
 clear hlt
 go_enter Tryz.func147, Tryz.ntmps147
 go_wp2_with fail
 refine wp_loop_rounds 1 ?_
 rw [rounds_succ]
 go_wp2_with fail
 go_ret
 exact ⟨rfl, rfl⟩
set_option maxHeartbeats 4000000 in
set_option maxRecDepth 100000 in
theorem asHit_c (r : Int) (t : Addr) (old : Value) (w : World) (hg : w.cell? ⟨0, 0, none⟩ = some (.iface 238 (.agg #[.pointer (some ⟨7, 111, none⟩)]))) (ht0 : w.cell? t = some old) (hf0 : w.frozen? t = false) :
  Calls Tryz.prog 100 #[.iface 143 (.agg #[.int .i64 r]), .iface 145 (.pointer (some t))] w fun ev w' => ev = .returned (.bool true) ∧ w' = ((((w.alloc (.cells #[.pointer (some t)] 145)).alloc (.cells #[.pointer (some ⟨7, 145, none⟩), .pointer (some ⟨w.heap.size, 0, none⟩), .int .u64 150] 195)).alloc (.cells #[.pointer (some ⟨7, 145, none⟩), .pointer (some ⟨w.heap.size, 0, none⟩), .int .u64 150] 195)).alloc (.cells #[.int .i64 r] 143)).setCell t (.int .i64 r) := by
 have h6 := @run_callFunc_extern Tryz.prog 144 _ (fun args => ReflectliteValue.unpack (args.getD 0 (.tuple #[]))) Tryz.func144 (by kernel_rfl) (by kernel_rfl) (by kernel_rfl) (by kernel_rfl)
 have h7 := @run_callFunc_extern Tryz.prog 145 _ (ReflectliteValue.methodAny (ReflectliteValue.valueError "reflectlite.Value.Type" 0) (fun t _ _ _ => ReflectliteType.toType t)) Tryz.func145 (by kernel_rfl) (by kernel_rfl) (by kernel_rfl) (by kernel_rfl)
 have h8 := @run_callFunc_extern Tryz.prog 146 _ (ReflectliteValue.method (ReflectliteValue.valueError "reflectlite.Value.IsNil" 0) ReflectliteValue.isNil) Tryz.func146 (by kernel_rfl) (by kernel_rfl) (by kernel_rfl) (by kernel_rfl)
 have h27 := @run_callFunc_extern Tryz.prog 287 _ (ReflectliteType.abiMethod fun t => do pure (.int .u8 (← Rtype.kind t))) Tryz.func287 (by kernel_rfl) (by kernel_rfl) (by kernel_rfl) (by kernel_rfl)
 have h37 := @run_callFunc_extern Tryz.prog 298 _ (ReflectliteType.method ReflectliteType.elem) Tryz.func298 (by kernel_rfl) (by kernel_rfl) (by kernel_rfl) (by kernel_rfl)
 have h38 := @run_callFunc_extern Tryz.prog 299 _ (ReflectliteType.relation "Implements" ReflectliteType.implements_) Tryz.func299 (by kernel_rfl) (by kernel_rfl) (by kernel_rfl) (by kernel_rfl)
 have h10 := @run_callFunc_extern Tryz.prog 186 _ ReflectliteType.typeOf Tryz.func186 (by kernel_rfl) (by kernel_rfl) (by kernel_rfl) (by kernel_rfl)
 have h35 := @run_callFunc_extern Tryz.prog 296 _ (ReflectliteType.relation "AssignableTo" ReflectliteType.assignableTo) Tryz.func296 (by kernel_rfl) (by kernel_rfl) (by kernel_rfl) (by kernel_rfl)
 have h11 := @run_callFunc_extern Tryz.prog 187 _ (ReflectliteValue.method (ReflectliteValue.valueError "reflectlite.Value.Elem" 0) ReflectliteValue.elem) Tryz.func187 (by kernel_rfl) (by kernel_rfl) (by kernel_rfl) (by kernel_rfl)
 have h12 := @run_callFunc_extern Tryz.prog 188 _ ReflectliteValue.set Tryz.func188 (by kernel_rfl) (by kernel_rfl) (by kernel_rfl) (by kernel_rfl)
 have tO := As.typeOfS
 have mA := As.methodAssignableTo
 have a25 := As.assignableS
 have v25 := As.valueOfS
 have f6 := As.valueOfP
 have f7 := As.typeP
 have mK := As.methodKind
 have mE := As.methodElem
 have mI := As.methodImplements
 have k27 := As.kindP
 have k25 := As.kindS
 have e27 := As.elemP
 have i25 := As.implementsS
 have n8 := As.isNilP ⟨w.heap.size, 0, none⟩ t ((w.alloc (.cells #[.pointer (some t)] 145)).alloc (.cells #[.pointer (some ⟨7, 145, none⟩), .pointer (some ⟨w.heap.size, 0, none⟩), .int .u64 150] 195)) (by simp)
 have hlt : 0 < w.heap.size := by
  rcases Nat.eq_zero_or_pos w.heap.size with h0 | h
  ·simp [World.cell?, h0] at hg
  ·exact h
 have hg2 : ((w.alloc (.cells #[.pointer (some t)] 145)).alloc (.cells #[.pointer (some ⟨7, 145, none⟩), .pointer (some ⟨w.heap.size, 0, none⟩), .int .u64 150] 195)).cell? ⟨0, 0, none⟩ = some (.iface 238 (.agg #[.pointer (some ⟨7, 111, none⟩)])) := by
  rw [World.cell?_alloc_lt _ _ ⟨0, 0, none⟩ (by simp), World.cell?_alloc_lt _ _ ⟨0, 0, none⟩ hlt]; exact hg
 have htl : t.block < w.heap.size := by
  rcases Nat.lt_or_ge t.block w.heap.size with h | h
  ·exact h
  ·simp [World.cell?, Array.getElem?_eq_none h] at ht0
 have hin := asIn_c r t ⟨w.heap.size, 0, none⟩ old ((w.alloc (.cells #[.pointer (some t)] 145)).alloc (.cells #[.pointer (some ⟨7, 145, none⟩), .pointer (some ⟨w.heap.size, 0, none⟩), .int .u64 150] 195))
  (by simp)
  (by rw [World.cell?_alloc_lt _ _ t (by simp; omega), World.cell?_alloc_lt _ _ t htl]; exact ht0)
  (by rw [World.frozen?_alloc_old _ _ t (by simp; omega), World.frozen?_alloc_old _ _ t (Nat.ne_of_lt htl)]; exact hf0)
 go_enter Tryz.func100, Tryz.ntmps100
 go_wp2_with fail
 refine hin.mono ?_; rintro e w1 ⟨rfl, rfl⟩
 go_wp2_with fail
 go_ret
 exact ⟨rfl, by simp⟩
end Go.Proofs.YtpmlcfgbfhgpgaaGreatDoor
/- reason of the program. -/
namespace Go.Proofs.YtpmlcfgbfhgpgaaGreatDoor
open Go.RowKit Go.Shelf
set_option linter.unusedVariables false
def ErrT (w : World) : Prop := w.cell? ⟨0, 0, none⟩ = some (.iface 238 (.agg #[.pointer (some ⟨7, 111, none⟩)]))
theorem ErrT.ext {w w' : World} (h : ErrT w) (hx : Ext w w') : ErrT w' := hx.keep h
def errV (k : Int) : Value := if k = 0 then .nilIface else .iface 143 (.agg #[.int .i64 k])
set_option maxHeartbeats 2000000 in
set_option maxRecDepth 100000 in
theorem reason_c (k : Int) (w : World) (hE : ErrT w) : Calls Tryz.prog 66 #[errV k] w (RV (.int .i64 k) w) := by
 unfold errV
 by_cases h0 : k = 0
 ·subst h0
  rw [if_pos rfl]
  go_enter Tryz.func66, Tryz.ntmps66
  go_wp2_with fail
  refine (asNil_c _ _).mono ?_; rintro e w1 ⟨rfl, rfl⟩
  go_wp2_with fail
  go_ret
  exact ⟨rfl, Ext.alloc _ _⟩
 ·rw [if_neg h0]
  have hb := Blk.alloc w #[.int .i64 0] 143
  have hx := Ext.alloc w (.cells #[.int .i64 0] 143)
  have HAS := Lib.hid (asHit_c k ⟨w.heap.size, 0, none⟩ (.int .i64 0) (w.alloc (.cells #[.int .i64 0] 143)) (hE.ext hx) (hb.cell (i := 0) rfl) (hb.frozen 0))
  go_enter Tryz.func66, Tryz.ntmps66
  go_wp2_with fail
  refine HAS.out.mono ?_; rintro e w1 ⟨rfl, rfl⟩
  have hx5 : ∀ W, Ext (w.alloc (.cells #[.int .i64 0] 143)) W → Ext w (W.setCell ⟨w.heap.size, 0, none⟩ (.int .i64 k)) ∧ (W.setCell ⟨w.heap.size, 0, none⟩ (.int .i64 k)).cell? ⟨w.heap.size, 0, none⟩ = some (.int .i64 k) := fun W h =>
   ⟨(hx.trans h).setCell (c := w.heap.size) (Nat.le_refl _) 0 _, ((hb.ext h).set 0 (.int .i64 k)).cell (i := 0) rfl⟩
  obtain ⟨h1, h2⟩ := hx5 _ ((((Ext.alloc (w.alloc (.cells #[.int .i64 0] 143)) (.cells #[.pointer (some ⟨w.heap.size, 0, none⟩)] 145)).trans (Ext.alloc _ (.cells #[.pointer (some ⟨7, 145, none⟩), .pointer (some ⟨(w.alloc (.cells #[.int .i64 0] 143)).heap.size, 0, none⟩), .int .u64 150] 195))).trans (Ext.alloc _ (.cells #[.pointer (some ⟨7, 145, none⟩), .pointer (some ⟨(w.alloc (.cells #[.int .i64 0] 143)).heap.size, 0, none⟩), .int .u64 150] 195))).trans (Ext.alloc _ (.cells #[.int .i64 k] 143)))
  generalize World.setCell _ ⟨w.heap.size, 0, none⟩ (.int .i64 k) = wF at *
  clear hx5
  go_wp2_with fail
  go_ret
  exact ⟨rfl, h1⟩
end Go.Proofs.YtpmlcfgbfhgpgaaGreatDoor
/- Systems of rules in memory; which systems and grounds are right; both packages. -/
namespace Go.Proofs.YtpmlcfgbfhgpgaaGreatDoor
open Go.RowKit Go.Shelf
set_option linter.unusedVariables false
def Ruls (w : World) (v : Value) (s : List Rul) : Prop :=
 Sl v s.length fun i b o => ∃ tv lv rv, w.cell? ⟨b, o + i * 4, none⟩ = some (.int .i64 (rulAt s i).f) ∧ w.cell? ⟨b, o + i * 4 + 1, none⟩ = some tv ∧ w.cell? ⟨b, o + i * 4 + 2, none⟩ = some lv ∧ w.cell? ⟨b, o + i * 4 + 3, none⟩ = some rv ∧ RulR w tv lv rv (rulAt s i)
theorem Ruls.sub {w w' : World} {v : Value} {s : List Rul} (h : Ruls w v s) (hb : Sub w w') : Ruls w' v s :=
 h.mono fun _ _ _ _ ⟨tv, lv, rv, h1, h2, h3, h4, h5⟩ => ⟨tv, lv, rv, hb _ _ h1, hb _ _ h2, hb _ _ h3, hb _ _ h4, h5.sub hb⟩
theorem Ruls.ext {w w' : World} {v : Value} {s : List Rul} (h : Ruls w v s) (hb : Ext w w') : Ruls w' v s := h.sub hb.sub
theorem Ruls.open_ {w : World} {v : Value} {s : List Rul} (h : Ruls w v s) :
  ∃ (a : Option Addr) (cap : Nat), v = .slice a s.length cap ∧ s.length ≤ cap ∧ cap ≤ 9223372036854775807 ∧
   Hid (∀ i, i < s.length → ∃ b o, a = some ⟨b, o, none⟩ ∧ ∃ tv lv rv, w.cell? ⟨b, o + i * 4, none⟩ = some (.int .i64 (rulAt s i).f) ∧ w.cell? ⟨b, o + i * 4 + 1, none⟩ = some tv ∧ w.cell? ⟨b, o + i * 4 + 2, none⟩ = some lv ∧ w.cell? ⟨b, o + i * 4 + 3, none⟩ = some rv ∧ RulR w tv lv rv (rulAt s i)) := h
theorem errS_zero : ∀ {s : List Rul}, (∀ j, j < s.length → validR (rulAt s j) = 0) → errS s = 0 := by
 intro s
 induction s with
 | nil => intro _; rfl
 | cons x s ih =>
  intro h
  have h0 := h 0 (by simp)
  rw [show rulAt (x :: s) 0 = x from rfl] at h0
  rw [errS, if_pos h0]
  exact ih fun j hj => h (j + 1) (by simp; omega)
theorem errS_at : ∀ {s : List Rul} {k : Nat}, k < s.length → (∀ j, j < k → validR (rulAt s j) = 0) → validR (rulAt s k) ≠ 0 → errS s = validR (rulAt s k) := by
 intro s
 induction s with
 | nil => intro k hk; simp at hk
 | cons x s ih =>
  intro k hk h hn
  cases k with
  | zero => rw [show rulAt (x :: s) 0 = x from rfl] at hn ⊢; rw [errS, if_neg hn]
  | succ k =>
   have h0 := h 0 (by omega)
   rw [show rulAt (x :: s) 0 = x from rfl] at h0
   rw [errS, if_pos h0]
   exact ih (by simpa using hk) (fun j hj => h (j + 1) (by omega)) hn
theorem errS_ok : ∀ {s : List Rul}, errS s = 0 → ∀ j, j < s.length → validR (rulAt s j) = 0 := by
 intro s
 induction s with
 | nil => intro _ j hj; simp at hj
 | cons x s ih =>
  intro h j hj
  rw [errS] at h
  split at h
  ·rename_i hx
   cases j with
   | zero => exact hx
   | succ j => exact ih h j (by simpa using hj)
  ·rename_i hx; exact absurd h hx
theorem Ruls.lit {w : World} {v : Value} {s : List Rul} (h : Ruls w v s) :
  ∃ (a : Option Addr) (cap : Nat), v = .slice a s.length cap ∧ s.length ≤ cap ∧ cap ≤ 9223372036854775807 ∧
   Hid (∀ i, i < s.length → ∃ b o, a = some ⟨b, o, none⟩ ∧ ∃ ta tc la lc ra rc, w.cell? ⟨b, o + i * 4, none⟩ = some (.int .i64 (rulAt s i).f) ∧ w.cell? ⟨b, o + i * 4 + 1, none⟩ = some (.slice ta (rulAt s i).t.length tc) ∧ w.cell? ⟨b, o + i * 4 + 2, none⟩ = some (.slice la (rulAt s i).l.length lc) ∧ w.cell? ⟨b, o + i * 4 + 3, none⟩ = some (.slice ra (rulAt s i).r.length rc) ∧ RulR w (.slice ta (rulAt s i).t.length tc) (.slice la (rulAt s i).l.length lc) (.slice ra (rulAt s i).r.length rc) (rulAt s i)) := by
 obtain ⟨a, c, hv, h1, h2, H⟩ := h
 refine ⟨a, c, hv, h1, by unfold maxLen at h2; omega, Lib.hid fun i hi => ?_⟩
 obtain ⟨b, o, ha, tv, lv, rv, c0, c1, c2, c3, hr⟩ := H i hi
 have hr' := hr
 obtain ⟨ta, tc, rfl, _⟩ := hr.t.open_
 obtain ⟨la, lc, rfl, _⟩ := hr.l.open_
 obtain ⟨ra, rc, rfl, _⟩ := hr.r.open_
 exact ⟨b, o, ha, ta, tc, la, lc, ra, rc, c0, c1, c2, c3, hr'⟩
set_option maxHeartbeats 1000000 in
set_option maxRecDepth 100000 in
theorem fValidate_c (v : Value) (s : List Rul) (w : World) (h : Ruls w v s) : Calls Tryz.prog 88 #[v] w (RV (.int .i64 (validS s)) w) := by
 obtain ⟨a, c, rfl, h1, h2, H⟩ := h.lit
 clear h
 have HV := Lib.hid (validS.eq_1 s)
 generalize validS s = V at *
 go_enter Tryz.func88, Tryz.ntmps88
 by_cases h6 : 6 < s.length
 ·go_wp2_with fail
  go_ret
  exact RV.int (by rw [HV.out, if_pos h6]) (Ext.refl _)
 ·go_wp2_with fail
  go_loopg [11] s.length (fun m i wr => ∃ k : Nat, k ≤ s.length ∧ s.length ≤ k + m ∧ i = .int .i64 k ∧ Ext w wr ∧ Hid (∀ j, j < k → validR (rulAt s j) = 0))
  case atStart => exact ⟨0, by omega, by omega, rfl, Ext.refl _, fun j hj => by omega⟩
  case round =>
   obtain ⟨k, hk, hk2, rfl, hB, hE⟩ := hrel
   by_cases hlt : k < s.length
   ·obtain ⟨b, o, rfl, ta, tc, la, lc, ra, rc, c0, c1, c2, c3, hr⟩ := H.out k hlt
    replace c0 := hB.keep c0
    replace c1 := hB.keep c1
    replace c2 := hB.keep c2
    replace c3 := hB.keep c3
    have HR := Lib.hid (hr.ext hB); clear hr
    generalize hx : rulAt s k = x at *
    have HX := Lib.hid hx; clear hx
    by_cases hv : validR x = 0
    ·have HVR := Lib.hid hv; clear hv
     go_wp2_with fail
     refine (Validate_c _ _ _ x _ (HR.out.ext (Ext.alloc _ _))).mono ?_; rw [HVR.out]; rintro e w1 ⟨rfl, hx1⟩
     replace hx1 := (Ext.alloc _ _).trans hx1
     go_wp2_with fail
     go_roundg (gk-1)
     case measure => omega
     case rel => exact ⟨k+1, by omega, by omega, by go_num, hB.trans hx1, fun j hj => by
      by_cases e : j = k
      ·subst e; rw [HX.out]; exact HVR.out
      ·exact hE.out j (by omega)⟩
    ·have hn : (validR x != 0) = true := by simp [hv]
     have HVR := Lib.hid (show V = validR x by rw [HV.out, if_neg h6, errS_at hlt hE.out (by rw [HX.out]; exact hv), HX.out]); clear hv
     go_wp2_with fail
     refine (Validate_c _ _ _ x _ (HR.out.ext (Ext.alloc _ _))).mono ?_; rintro e w1 ⟨rfl, hx1⟩
     replace hx1 := (Ext.alloc _ _).trans hx1
     go_wp2_with fail
     go_ret
     exact RV.int HVR.out.symm (hB.trans hx1)
   ·go_wp2_with fail
    go_ret
    exact RV.int (by rw [HV.out, if_neg h6, errS_zero fun j hj => hE.out j (by omega)]) hB
set_option maxHeartbeats 1000000 in
set_option maxRecDepth 100000 in
theorem rfValidate_c (v : Value) (s : List Rul) (w : World) (h : Ruls w v s) : Calls Tryz.prog 76 #[v] w (RV (.int .i64 (validS s)) w) := by
 obtain ⟨a, c, rfl, h1, h2, H⟩ := h.lit
 clear h
 have HV := Lib.hid (validS.eq_1 s)
 generalize validS s = V at *
 go_enter Tryz.func76, Tryz.ntmps76
 by_cases h6 : 6 < s.length
 ·go_wp2_with fail
  go_ret
  exact RV.int (by rw [HV.out, if_pos h6]) (Ext.refl _)
 ·go_wp2_with fail
  go_loopg [3] s.length (fun m i wr => ∃ k : Nat, k ≤ s.length ∧ s.length ≤ k + m ∧ i = .int .i64 k ∧ Ext w wr ∧ Hid (∀ j, j < k → validR (rulAt s j) = 0))
  case atStart => exact ⟨0, by omega, by omega, rfl, Ext.refl _, fun j hj => by omega⟩
  case round =>
   obtain ⟨k, hk, hk2, rfl, hB, hE⟩ := hrel
   by_cases hlt : k < s.length
   ·obtain ⟨b, o, rfl, ta, tc, la, lc, ra, rc, c0, c1, c2, c3, hr⟩ := H.out k hlt
    replace c0 := hB.keep c0
    replace c1 := hB.keep c1
    replace c2 := hB.keep c2
    replace c3 := hB.keep c3
    have HR := Lib.hid (hr.ext hB); clear hr
    generalize hx : rulAt s k = x at *
    have HX := Lib.hid hx; clear hx
    by_cases hv : validR x = 0
    ·have HVR := Lib.hid hv; clear hv
     go_wp2_with fail
     refine (rValidate_c _ _ _ x _ (HR.out)).mono ?_; rw [HVR.out]; rintro e w1 ⟨rfl, hx1⟩
     go_wp2_with fail
     go_roundg (gk-1)
     case measure => omega
     case rel => exact ⟨k+1, by omega, by omega, by go_num, hB.trans hx1, fun j hj => by
      by_cases e : j = k
      ·subst e; rw [HX.out]; exact HVR.out
      ·exact hE.out j (by omega)⟩
    ·have hn : (validR x != 0) = true := by simp [hv]
     have HVR := Lib.hid (show V = validR x by rw [HV.out, if_neg h6, errS_at hlt hE.out (by rw [HX.out]; exact hv), HX.out]); clear hv
     go_wp2_with fail
     refine (rValidate_c _ _ _ x _ (HR.out)).mono ?_; rintro e w1 ⟨rfl, hx1⟩
     go_wp2_with fail
     go_ret
     exact RV.int HVR.out.symm (hB.trans hx1)
   ·go_wp2_with fail
    go_ret
    exact RV.int (by rw [HV.out, if_neg h6, errS_zero fun j hj => hE.out j (by omega)]) hB
def OneW (w : World) (v : Value) (l : List Int) : Prop := ∃ g u, v = .slice (some ⟨g, 0, none⟩) 1 1 ∧ w.cell? ⟨g, 0, none⟩ = some u ∧ Ints w u l
theorem OneW.ext {w w' : World} {v : Value} {l : List Int} (h : OneW w v l) (hx : Ext w w') : OneW w' v l := by
 obtain ⟨g, u, h1, h2, h3⟩ := h
 exact ⟨g, u, h1, hx.keep h2, h3.ext hx⟩
theorem OneW.new (w : World) (u : Value) (l : List Int) (t : TypeId) (h : Ints w u l) : OneW (w.alloc (.cells #[u] t)) (.slice (some ⟨w.heap.size, 0, none⟩) 1 1) l :=
 ⟨_, u, rfl, alloc_cell w #[u] t rfl, h.ext (Ext.alloc _ _)⟩
set_option maxHeartbeats 1000000 in
set_option maxRecDepth 100000 in
theorem fcheck_c (v u : Value) (s : List Rul) (l : List Int) (w : World) (h : Ruls w v s) (hw : OneW w u l) : Calls Tryz.prog 90 #[v, u] w (RV (.int .i64 (checkW s l)) w) := by
 have HF := Lib.hid (fValidate_c v s w h)
 obtain ⟨a, c, rfl, _⟩ := h.open_
 obtain ⟨g, x, rfl, hc, hi⟩ := hw
 obtain ⟨aw, cw, rfl, _⟩ := hi.open_
 have HI := Lib.hid hi
 clear h hi
 by_cases h0 : validS s = 0
 ·rw [h0] at HF
  rw [show checkW s l = validW l by rw [checkW, if_pos h0]]
  clear h0
  generalize hV : validW l = V at *
  have HV := Lib.hid hV; clear hV
  by_cases hn : V = 0
  ·have HN := Lib.hid hn; subst hn
   go_enter Tryz.func90, Tryz.ntmps90
   go_wp2_with fail
   refine HF.out.mono ?_; rintro e w1 ⟨rfl, hx1⟩
   go_wp2_with fail
   go_loopg [16] 1 (fun m i wr => ∃ k : Nat, k ≤ 1 ∧ 1 ≤ k + m ∧ i = .int .i64 k ∧ Ext w wr)
   case atStart => exact ⟨0, by omega, by omega, rfl, hx1⟩
   case round =>
    obtain ⟨k, hk, hk2, rfl, hB⟩ := hrel
    by_cases hlt : k < 1
    ·obtain rfl : k = 0 := by omega
     replace hc := hB.keep hc
     go_wp2_with fail
     refine (ValidateWord_c _ l _ (HI.out.ext hB)).mono ?_; rw [HV.out]; rintro e w2 ⟨rfl, hx2⟩
     go_wp2_with fail
     go_roundg (gk-1)
     case measure => omega
     case rel => exact ⟨1, by omega, by omega, by go_num, hB.trans hx2⟩
    ·obtain rfl : k = 1 := by omega
     go_wp2_with fail
     go_ret
     exact RV.int rfl hB
  ·have hd : (V != 0) = true := by simp [hn]
   go_enter Tryz.func90, Tryz.ntmps90
   go_wp2_with fail
   refine HF.out.mono ?_; rintro e w1 ⟨rfl, hx1⟩
   go_wp2_with fail
   go_loopg [16] 1 (fun m i wr => m = 1 ∧ i = .int .i64 0 ∧ Ext w wr)
   case atStart => exact ⟨rfl, rfl, hx1⟩
   case round =>
    obtain ⟨_, rfl, hB⟩ := hrel
    replace hc := hB.keep hc
    go_wp2_with fail
    refine (ValidateWord_c _ l _ (HI.out.ext hB)).mono ?_; rw [HV.out]; rintro e w2 ⟨rfl, hx2⟩
    go_wp2_with fail
    go_ret
    exact RV.int rfl (hB.trans hx2)
 ·rw [show checkW s l = validS s by rw [checkW, if_neg h0]]
  have hd : (validS s != 0) = true := by simp [h0]
  generalize validS s = K at *
  clear h0
  go_enter Tryz.func90, Tryz.ntmps90
  go_wp2_with fail
  refine HF.out.mono ?_; rintro e w1 ⟨rfl, hx1⟩
  go_wp2_with fail
  go_ret
  exact RV.int rfl hx1
end Go.Proofs.YtpmlcfgbfhgpgaaGreatDoor
/- Which grounds are right, and all that a winner is asked with; both packages. -/
namespace Go.Proofs.YtpmlcfgbfhgpgaaGreatDoor
open Go.RowKit Go.Shelf
set_option linter.unusedVariables false
theorem gr1_c (n : Int) (w : World) : Calls Tryz.prog 163 #[.int .i64 n] w (RV (.bool (!inB n 1 4)) w) := by
 by_cases h : n < 1
 ·go_enter Tryz.func163, Tryz.ntmps163
  go_wp2
  go_ret
  exact RV.bool (by simp [inB]; omega) (Ext.refl _)
 ·go_enter Tryz.func163, Tryz.ntmps163
  go_wp2
  go_ret
  exact RV.bool (by simp [inB]; rw [Bool.eq_iff_iff]; simp; omega) (Ext.refl _)
theorem any_not (l : List Int) (p : Int → Bool) : ((List.range l.length).any fun i => !p (l[i]?.getD 0)) = !allB l.length fun i => p (l[i]?.getD 0) := by
 unfold allB; rw [List.not_all_eq_any_not]
theorem outG_c (v : Value) (gs : List Int) (w : World) (h : Ints w v gs) : Calls Tryz.prog 162 #[v, .func (.func 163) #[] #[]] w (RV (.bool (outG gs)) w) := by
 have HC := containsFunc_c v gs 163 #[] (fun n => !inB n 1 4) w (enters_of Tryz.func163 (by kernel_rfl) rfl) (fun W i _ _ => gr1_c _ W) h
 rw [any_not gs (fun x => inB x 1 4)] at HC; exact HC
theorem validG_ok {gs : List Int} (h4 : ¬ 4 < gs.length) (ho : outG gs = false) (h : ∀ j, j < gs.length → dupG gs j = false) : validG gs = 0 := by
 rw [validG, if_neg h4, ho, if_neg (by simp), if_pos (allB_true fun j hj => by rw [h j hj]; rfl)]
theorem validG_dup {gs : List Int} {k : Nat} (hk : k < gs.length) (h4 : ¬ 4 < gs.length) (ho : outG gs = false) (h : dupG gs k = true) : validG gs = 5 := by
 rw [validG, if_neg h4, ho, if_neg (by simp), if_neg (by rw [allB_false hk (by rw [h]; rfl)]; simp)]
set_option maxHeartbeats 1000000 in
set_option maxRecDepth 100000 in
theorem gValidate_c (v : Value) (gs : List Int) (w : World) (h : Ints w v gs) : Calls Tryz.prog 111 #[v] w (RV (.int .i64 (validG gs)) w) := by
 have HC := Lib.hid (outG_c v gs w h)
 obtain ⟨a, c, rfl, h1, h2, H⟩ := h.open_
 have HI := Lib.hid h; clear h
 by_cases h4 : 4 < gs.length
 ·rw [validG, if_pos h4]
  go_enter Tryz.func111, Tryz.ntmps111
  go_wp2_with fail
  go_ret
  exact RV.int rfl (Ext.refl _)
 ·cases ho : outG gs
  ·have HO := Lib.hid ho; rw [ho] at HC; clear ho
   go_enter Tryz.func111, Tryz.ntmps111
   go_wp2_with fail
   refine HC.out.mono ?_; rintro e w1 ⟨rfl, hx1⟩
   go_wp2_with fail
   go_loopg [12] gs.length (fun m i wr => ∃ k : Nat, k ≤ gs.length ∧ gs.length ≤ k + m ∧ i = .int .i64 k ∧ Ext w wr ∧ Hid (∀ j, j < k → dupG gs j = false))
   case atStart => exact ⟨0, by omega, by omega, rfl, hx1, fun j hj => by omega⟩
   case round =>
    obtain ⟨k, hk, hk2, rfl, hB, hE⟩ := hrel
    by_cases hlt : k < gs.length
    ·obtain ⟨b, o, rfl, hc⟩ := H.out k hlt
     replace hc := hB.keep hc
     have HD := Lib.hid (contains_c (.slice (some ⟨b, o, none⟩) k c) (gs.take k) (gs[k]?.getD 0) wr ((HI.out.ext hB).take hk))
     have hdk : hasB (gs.take k) (gs[k]?.getD 0) = dupG gs k := rfl
     rw [hdk] at HD
     clear hdk
     cases hd : dupG gs k
     ·have HDK := Lib.hid hd; rw [hd] at HD; clear hd
      generalize gs[k]?.getD 0 = x at *
      go_wp2_with fail
      refine HD.out.mono ?_; rintro e w2 ⟨rfl, rfl⟩
      go_wp2_with fail
      go_roundg (gk-1)
      case measure => omega
      case rel => exact ⟨k+1, by omega, by omega, by go_num, hB, range_step hE.out HDK.out⟩
     ·have HV := Lib.hid (validG_dup hlt h4 HO.out hd); rw [hd] at HD; clear hd
      generalize gs[k]?.getD 0 = x at *
      generalize validG gs = V at *
      go_wp2_with fail
      refine HD.out.mono ?_; rintro e w2 ⟨rfl, rfl⟩
      go_wp2_with fail
      go_ret
      exact RV.int HV.out.symm hB
    ·have HV := Lib.hid (validG_ok h4 HO.out (fun j hj => hE.out j (by omega)))
     generalize validG gs = V at *
     go_wp2_with fail
     go_ret
     exact RV.int HV.out.symm hB
  ·have HV := Lib.hid (show validG gs = 1 by rw [validG, if_neg h4, ho, if_pos rfl])
   rw [ho] at HC; clear ho
   generalize validG gs = V at *
   go_enter Tryz.func111, Tryz.ntmps111
   go_wp2_with fail
   refine HC.out.mono ?_; rintro e w1 ⟨rfl, hx1⟩
   go_wp2_with fail
   go_ret
   exact RV.int HV.out.symm hx1
set_option maxHeartbeats 400000 in
theorem has4_c (v : Value) (l : List Int) (x : Int) (w : World) (h : Ints w v l) : Calls Tryz.prog 255 #[v, .int .i64 x] w (RP (.bool (hasB l x)) w) := by
 obtain ⟨a, c, rfl, h1, h2, H⟩ := h.open_
 clear h
 have HV := Lib.hid (hasB.eq_1 l x)
 generalize hasB l x = V at *
 go_enter Tryz.func255, Tryz.ntmps255
 go_wp2_with fail
 go_loopg [5] l.length (fun m i wr => ∃ k : Nat, k ≤ l.length ∧ l.length ≤ k + m ∧ i = .int .i64 k ∧ w = wr ∧ Hid (∀ j, j < k → (l[j]?.getD 0 == x) = false))
 case atStart => exact ⟨0, by omega, by omega, rfl, rfl, fun j hj => by omega⟩
 case round =>
  obtain ⟨k, hk, hk2, rfl, rfl, hE⟩ := hrel
  by_cases hlt : k < l.length
  ·obtain ⟨b, o, rfl, hc⟩ := H.out k hlt
   generalize hy : l[k]?.getD 0 = y at *
   have HY := Lib.hid hy; clear hy
   by_cases hxy : y = x
   ·have HX := Lib.hid hxy
    have hd : (y == x) = true := by simp [hxy]
    clear hxy
    go_wp2_with fail
    go_ret
    refine RP.bool ?_
    rw [HV.out]; symm; rw [List.any_eq_true]; exact ⟨k, by simp [hlt], by rw [HY.out, HX.out]; simp⟩
   ·have hd : (y == x) = false := by simp [hxy]
    have HX := Lib.hid hd
    clear hxy
    go_wp2_with fail
    go_roundg (gk-1)
    case measure => omega
    case rel => exact ⟨k+1, by omega, by omega, by go_num, rfl, range_step hE.out (by rw [HY.out]; exact HX.out)⟩
  ·go_wp2_with fail
   go_ret
   refine RP.bool ?_
   rw [HV.out]; symm; rw [List.any_eq_false]; intro j hj
   have hj : j < l.length := by simpa using hj
   rw [hE.out j (by omega)]; simp
set_option maxHeartbeats 2000000 in
set_option maxRecDepth 100000 in
theorem rgValidate_c (v : Value) (gs : List Int) (w : World) (h : Ints w v gs) : Calls Tryz.prog 240 #[v] w (RV (.int .i64 (validG gs)) w) := by
 obtain ⟨a, c, rfl, h1, h2, H⟩ := h.open_
 have HI := Lib.hid h; clear h
 by_cases h4 : 4 < gs.length
 ·rw [validG, if_pos h4]
  go_enter Tryz.func240, Tryz.ntmps240
  go_wp2_with fail
  go_ret
  exact RV.int rfl (Ext.refl _)
 ·go_enter Tryz.func240, Tryz.ntmps240
  go_wp2_with fail
  go_loopg [3] gs.length (fun m i wr => ∃ k : Nat, k ≤ gs.length ∧ gs.length ≤ k + m ∧ i = .int .i64 k ∧ Ext w wr ∧ Hid (∀ j, j < k → inB (gs[j]?.getD 0) 1 4 = true))
  case atStart => exact ⟨0, by omega, by omega, rfl, Ext.refl _, fun j hj => by omega⟩
  case round =>
   obtain ⟨k, hk, hk2, rfl, hB, hE⟩ := hrel
   by_cases hlt : k < gs.length
   ·obtain ⟨b, o, rfl, hc⟩ := H.out k hlt
    replace hc := hB.keep hc
    generalize hy : gs[k]?.getD 0 = y at *
    have HY := Lib.hid hy; clear hy
    have bad : ¬ (1 ≤ y ∧ y ≤ 4) → validG gs = 1 := fun hb => by
     rw [validG, if_neg h4, if_pos]
     unfold outG
     rw [allB_false hlt]; · rfl
     rw [HY.out]; simp [inB]; omega
    have HBAD := Lib.hid bad; clear bad
    by_cases hy1 : y < 1
    ·generalize validG gs = V at *
     go_wp2_with fail
     go_ret
     exact RV.int (HBAD.out (by omega)).symm hB
    ·by_cases hy4 : 4 < y
     ·generalize validG gs = V at *
      go_wp2_with fail
      go_ret
      exact RV.int (HBAD.out (by omega)).symm hB
     ·go_wp2_with fail
      go_roundg (gk-1)
      case measure => omega
      case rel => exact ⟨k+1, by omega, by omega, by go_num, hB, range_step hE.out (by rw [HY.out]; simp [inB]; omega)⟩
   ·have HO := Lib.hid (show outG gs = false by unfold outG; rw [allB_true (fun j hj => hE.out j (by omega))]; rfl)
    obtain rfl : k = gs.length := by omega
    clear hE hlt hk hk2
    go_wp2_with fail
    go_loopg [4] gs.length (fun m i wr => ∃ k : Nat, k ≤ gs.length ∧ gs.length ≤ k + m ∧ i = .int .i64 k ∧ Ext w wr ∧ Hid (∀ j, j < k → dupG gs j = false))
    case atStart => exact ⟨0, by omega, by omega, rfl, hB, fun j hj => by omega⟩
    case round =>
     clear hB
     obtain ⟨k, hk, hk2, rfl, hB, hE⟩ := hrel
     by_cases hlt : k < gs.length
     ·obtain ⟨b, o, rfl, hc⟩ := H.out k hlt
      replace hc := hB.keep hc
      generalize hy : gs[k]?.getD 0 = y at *
      have hcs : ∀ s : Later wr, s.w.cell? ⟨b, o + k, none⟩ = some (.int .i64 y) := fun s => s.ext.keep hc
      have hdk : hasB (gs.take k) y = dupG gs k := by rw [← hy]; rfl
      cases hd : dupG gs k
      ·have HD := Lib.hid (fun s : Later wr => by have := has4_c (.slice (some ⟨b, o, none⟩) k c) (gs.take k) y s.w ((HI.out.ext (hB.trans s.ext)).take hk); rw [hdk, hd] at this; exact this)
       have HDK := Lib.hid hd; clear hd hdk hy
       go_wp2_with fail
       refine wp_region_later (by kernel_rfl) (by kernel_rfl) ?_
       repeat (go_big_quiet_step (first | (go_at_call 255; first | with_reducible exact Later.callP (HD.out _))))
       refine wpQuiet_nil ?_
       intro w5 hw'
       obtain ⟨⟨_, hx5⟩, rfl⟩ := hw'
       go_wp2_with fail
       go_roundg (gk-1)
       case measure => omega
       case rel => exact ⟨k+1, by omega, by omega, by go_num, hB.trans hx5, range_step hE.out HDK.out⟩
      ·have HD := Lib.hid (fun s : Later wr => by have := has4_c (.slice (some ⟨b, o, none⟩) k c) (gs.take k) y s.w ((HI.out.ext (hB.trans s.ext)).take hk); rw [hdk, hd] at this; exact this)
       have HV := Lib.hid (validG_dup hlt h4 HO.out hd); clear hd hdk hy
       generalize validG gs = V at *
       go_wp2_with fail
       refine wp_region_later (by kernel_rfl) (by kernel_rfl) ?_
       repeat (go_big_quiet_step (first | (go_at_call 255; first | with_reducible exact Later.callP (HD.out _))))
       refine wpQuiet_nil ?_
       intro w5 hw'
       obtain ⟨⟨_, hx5⟩, rfl⟩ := hw'
       go_wp2_with fail
       go_ret
       exact RV.int HV.out.symm (hB.trans hx5)
     ·have HV := Lib.hid (validG_ok h4 HO.out (fun j hj => hE.out j (by omega)))
      generalize validG gs = V at *
      go_wp2_with fail
      go_ret
      exact RV.int HV.out.symm hB
end Go.Proofs.YtpmlcfgbfhgpgaaGreatDoor
/- All that a winner is asked with: the first error; both packages. -/
namespace Go.Proofs.YtpmlcfgbfhgpgaaGreatDoor
open Go.RowKit Go.Shelf
set_option linter.unusedVariables false
set_option maxHeartbeats 1000000 in
set_option maxRecDepth 100000 in
theorem rword_c (v wv : Value) (s : List Rul) (l : List Int) (w : World) (h : Ruls w v s) (hw : Ints w wv l) : Calls Tryz.prog 239 #[v, wv] w (RV (.int .i64 (checkW s l)) w) := by
 have HF := Lib.hid (rfValidate_c v s w h)
 obtain ⟨a, c, rfl, _⟩ := h.open_
 obtain ⟨aw, cw, rfl, _⟩ := hw.open_
 have HI := Lib.hid hw
 clear h hw
 by_cases h0 : validS s = 0
 ·rw [h0] at HF
  rw [show checkW s l = validW l by rw [checkW, if_pos h0]]
  clear h0
  go_enter Tryz.func239, Tryz.ntmps239
  go_wp2_with fail
  refine HF.out.mono ?_; rintro e w1 ⟨rfl, hx1⟩
  go_wp2_with fail
  refine (rValidateWord_c _ l _ (HI.out.ext hx1)).mono ?_; rintro e w2 ⟨rfl, hx2⟩
  go_wp2_with fail
  go_ret
  exact RV.int rfl (hx1.trans hx2)
 ·rw [show checkW s l = validS s by rw [checkW, if_neg h0]]
  have hd : (validS s != 0) = true := by simp [h0]
  generalize validS s = K at *
  clear h0
  go_enter Tryz.func239, Tryz.ntmps239
  go_wp2_with fail
  refine HF.out.mono ?_; rintro e w1 ⟨rfl, hx1⟩
  go_wp2_with fail
  go_ret
  exact RV.int rfl hx1
set_option maxHeartbeats 1000000 in
set_option maxRecDepth 100000 in
theorem rall_c4 (v wv gv : Value) (s : List Rul) (l gs : List Int) (w : World) (h : Ruls w v s) (hw : Ints w wv l) (hg : Ints w gv gs) : Calls Tryz.prog 211 #[v, wv, gv] w (RV (.int .i64 (checkK s l gs)) w) := by
 have HF := Lib.hid (rword_c v wv s l w h hw)
 obtain ⟨a, c, rfl, _⟩ := h.open_
 obtain ⟨aw, cw, rfl, _⟩ := hw.open_
 obtain ⟨ag, cg, rfl, _⟩ := hg.open_
 have HI := Lib.hid hg
 clear h hw hg
 by_cases h0 : checkW s l = 0
 ·rw [h0] at HF
  rw [show checkK s l gs = validG gs by rw [checkK, if_pos h0]]
  clear h0
  go_enter Tryz.func211, Tryz.ntmps211
  go_wp2_with fail
  refine HF.out.mono ?_; rintro e w1 ⟨rfl, hx1⟩
  go_wp2_with fail
  refine (rgValidate_c _ gs _ (HI.out.ext hx1)).mono ?_; rintro e w2 ⟨rfl, hx2⟩
  go_wp2_with fail
  go_ret
  exact RV.int rfl (hx1.trans hx2)
 ·rw [show checkK s l gs = checkW s l by rw [checkK, if_neg h0]]
  have hd : (checkW s l != 0) = true := by simp [h0]
  generalize checkW s l = K at *
  clear h0
  go_enter Tryz.func211, Tryz.ntmps211
  go_wp2_with fail
  refine HF.out.mono ?_; rintro e w1 ⟨rfl, hx1⟩
  go_wp2_with fail
  go_ret
  exact RV.int rfl hx1
set_option maxHeartbeats 1000000 in
set_option maxRecDepth 100000 in
theorem worded3_c (v wv : Value) (s : List Rul) (l : List Int) (w : World) (h : Ruls w v s) (hw : Ints w wv l) : Calls Tryz.prog 264 #[v, wv, .slice none 0 0] w (RV (.int .i64 (checkW s l)) w) := by
 have HF := Lib.hid (rfValidate_c v s w h)
 obtain ⟨a, c, rfl, _⟩ := h.open_
 obtain ⟨aw, cw, rfl, _⟩ := hw.open_
 have HI := Lib.hid hw
 clear h hw
 have hnil : validW [] = 0 := rfl
 by_cases h0 : validS s = 0
 ·rw [h0] at HF
  rw [show checkW s l = validW l by rw [checkW, if_pos h0]]
  clear h0
  have HVW := Lib.hid (fun W (h : Ext w W) => rValidateWord_c _ l W (HI.out.ext h))
  by_cases h1 : validW l = 0
  ·rw [h1] at HVW ⊢
   clear h1
   go_enter Tryz.func264, Tryz.ntmps264
   go_wp2_with fail
   refine HF.out.mono ?_; rintro e w1 ⟨rfl, hx1⟩
   go_wp2_with fail
   refine (HVW.out _ hx1).mono ?_; rintro e w2 ⟨rfl, hx2⟩
   go_wp2_with fail
   refine (rValidateWord_c _ [] _ (ints_nil_c _)).mono ?_; rw [hnil]; rintro e w3 ⟨rfl, hx3⟩
   go_wp2_with fail
   go_ret
   exact RV.int rfl (hx1.trans (hx2.trans hx3))
  ·have hd : (validW l != 0) = true := by simp [h1]
   generalize validW l = K at *
   clear h1
   go_enter Tryz.func264, Tryz.ntmps264
   go_wp2_with fail
   refine HF.out.mono ?_; rintro e w1 ⟨rfl, hx1⟩
   go_wp2_with fail
   refine (HVW.out _ hx1).mono ?_; rintro e w2 ⟨rfl, hx2⟩
   go_wp2_with fail
   go_ret
   exact RV.int rfl (hx1.trans hx2)
 ·rw [show checkW s l = validS s by rw [checkW, if_neg h0]]
  have hd : (validS s != 0) = true := by simp [h0]
  generalize validS s = K at *
  clear h0
  go_enter Tryz.func264, Tryz.ntmps264
  go_wp2_with fail
  refine HF.out.mono ?_; rintro e w1 ⟨rfl, hx1⟩
  go_wp2_with fail
  go_ret
  exact RV.int rfl hx1
set_option maxHeartbeats 1000000 in
set_option maxRecDepth 100000 in
theorem ocheck_c (v wv u : Value) (s : List Rul) (l gs : List Int) (w : World) (h : Ruls w v s) (hw : Ints w wv l) (hg : OneW w u gs) : Calls Tryz.prog 74 #[v, wv, u] w (RV (.int .i64 (checkK s l gs)) w) := by
 have HF := Lib.hid (fValidate_c v s w h)
 obtain ⟨a, c, rfl, _⟩ := h.open_
 obtain ⟨aw, cw, rfl, _⟩ := hw.open_
 obtain ⟨g, x, rfl, hc, hi⟩ := hg
 obtain ⟨ag, cg, rfl, _⟩ := hi.open_
 have HI := Lib.hid hw
 have HG := Lib.hid hi
 clear h hw hi
 by_cases h0 : validS s = 0
 ·rw [h0] at HF
  have HVW := Lib.hid (fun W (h : Ext w W) => ValidateWord_c _ l W (HI.out.ext h))
  by_cases h1 : validW l = 0
  ·rw [h1] at HVW
   rw [show checkK s l gs = validG gs by rw [checkK, if_pos (by rw [checkW, if_pos h0]; exact h1)]]
   clear h0 h1
   generalize hV : validG gs = V at *
   have HV := Lib.hid hV; clear hV
   by_cases hn : V = 0
   ·subst hn
    go_enter Tryz.func74, Tryz.ntmps74
    go_wp2_with fail
    refine HF.out.mono ?_; rintro e w1 ⟨rfl, hx1⟩
    go_wp2_with fail
    refine (HVW.out _ hx1).mono ?_; rintro e w2 ⟨rfl, hx2⟩
    replace hx2 := hx1.trans hx2
    go_wp2_with fail
    go_loopg [24] 1 (fun m i wr => ∃ k : Nat, k ≤ 1 ∧ 1 ≤ k + m ∧ i = .int .i64 k ∧ Ext w wr)
    case atStart => exact ⟨0, by omega, by omega, rfl, hx2⟩
    case round =>
     obtain ⟨k, hk, hk2, rfl, hB⟩ := hrel
     by_cases hlt : k < 1
     ·obtain rfl : k = 0 := by omega
      replace hc := hB.keep hc
      go_wp2_with fail
      refine (gValidate_c _ gs _ (HG.out.ext hB)).mono ?_; rw [HV.out]; rintro e w3 ⟨rfl, hx3⟩
      go_wp2_with fail
      go_roundg (gk-1)
      case measure => omega
      case rel => exact ⟨1, by omega, by omega, by go_num, hB.trans hx3⟩
     ·obtain rfl : k = 1 := by omega
      go_wp2_with fail
      go_ret
      exact RV.int rfl hB
   ·have hd : (V != 0) = true := by simp [hn]
    go_enter Tryz.func74, Tryz.ntmps74
    go_wp2_with fail
    refine HF.out.mono ?_; rintro e w1 ⟨rfl, hx1⟩
    go_wp2_with fail
    refine (HVW.out _ hx1).mono ?_; rintro e w2 ⟨rfl, hx2⟩
    replace hx2 := hx1.trans hx2
    go_wp2_with fail
    go_loopg [24] 1 (fun m i wr => m = 1 ∧ i = .int .i64 0 ∧ Ext w wr)
    case atStart => exact ⟨rfl, rfl, hx2⟩
    case round =>
     obtain ⟨_, rfl, hB⟩ := hrel
     replace hc := hB.keep hc
     go_wp2_with fail
     refine (gValidate_c _ gs _ (HG.out.ext hB)).mono ?_; rw [HV.out]; rintro e w3 ⟨rfl, hx3⟩
     go_wp2_with fail
     go_ret
     exact RV.int rfl (hB.trans hx3)
  ·rw [show checkK s l gs = validW l by rw [checkK, checkW, if_pos h0, if_neg h1]]
   have hd : (validW l != 0) = true := by simp [h1]
   generalize validW l = K at *
   clear h0 h1
   go_enter Tryz.func74, Tryz.ntmps74
   go_wp2_with fail
   refine HF.out.mono ?_; rintro e w1 ⟨rfl, hx1⟩
   go_wp2_with fail
   refine (HVW.out _ hx1).mono ?_; rintro e w2 ⟨rfl, hx2⟩
   go_wp2_with fail
   go_ret
   exact RV.int rfl (hx1.trans hx2)
 ·rw [show checkK s l gs = validS s by rw [checkK, checkW, if_neg h0, if_neg h0]]
  have hd : (validS s != 0) = true := by simp [h0]
  generalize validS s = K at *
  clear h0
  go_enter Tryz.func74, Tryz.ntmps74
  go_wp2_with fail
  refine HF.out.mono ?_; rintro e w1 ⟨rfl, hx1⟩
  go_wp2_with fail
  go_ret
  exact RV.int rfl hx1
end Go.Proofs.YtpmlcfgbfhgpgaaGreatDoor
/- The steps of a word: the program's way. -/
namespace Go.Proofs.YtpmlcfgbfhgpgaaGreatDoor
open Go.RowKit Go.Shelf
set_option linter.unusedVariables false
def encM (m : Nat × Int × Value) : List Value := [.int .i64 m.1, .int .i64 m.2.1, m.2.2]
theorem encM_len (m : Nat × Int × Value) : (encM m).length = 3 := rfl
def encS (a : Stp) : List Value := [.int .i64 a.1, .int .i64 a.2]
theorem encS_len (a : Stp) : (encS a).length = 2 := rfl
structure MovIs (M : List (Nat × Int × Value)) (l : List Stp) : Prop where
 is : M.map (fun m => (m.1, m.2.1)) = l
 sl : ∀ m ∈ M, ∃ a n c, m.2.2 = .slice a n c
theorem MovIs.len {M : List (Nat × Int × Value)} {l : List Stp} (h : MovIs M l) : M.length = l.length := by rw [← h.is]; simp
theorem MovIs.snoc {M : List (Nat × Int × Value)} {l : List Stp} (h : MovIs M l) (k : Nat) (p : Int) (a : Option Addr) (n c : Nat) : MovIs (M ++ [(k, p, .slice a n c)]) (l ++ [(k, p)]) := by
 refine ⟨by rw [List.map_append, h.is]; rfl, fun m hm => ?_⟩
 rcases List.mem_append.1 hm with hm | hm
 ·exact h.sl m hm
 ·simp only [List.mem_singleton] at hm; subst hm; exact ⟨a, n, c, rfl⟩
theorem filter_sel (n : Nat) (f g : Nat → Bool) (h : ∀ i, i < n → g i = true → f i = true) (G : Int → Bool) (hG : ∀ i : Nat, G i = g i) : (sel n f).filter G = sel n g := by
 unfold sel
 rw [List.filter_map, List.filter_filter]
 congr 1
 refine List.filter_congr fun i hi => ?_
 have hi : i < n := by simpa using hi
 simp only [Function.comp_apply, hG]
 cases hg : g i
 ·simp
 ·simp [h i hi hg]
theorem movesAt_places (x : Rul) (k : Nat) (w : List Int) : movesAt x k w = ((plL x w).filter fun p => applyK x w p == 0).map fun p => (k, p) := by
 unfold movesAt
 congr 1
 unfold plL
 by_cases hw : wordK x w = 0
 ·rw [if_pos hw, placesL_all]
  symm
  refine filter_sel _ _ _ (fun i _ hi => ?_) _ (fun _ => rfl)
  unfold applyK apK at hi
  rw [if_pos hw] at hi
  cases hp : placeB x w i
  ·rw [hp] at hi; simp at hi
  ·rfl
 ·rw [if_neg hw]
  have : ∀ i : Nat, (applyK x w i == 0) = false := fun i => by unfold applyK; rw [if_neg hw]; simpa using hw
  unfold sel
  rw [List.filter_eq_nil_iff.2 (fun i _ => by rw [this]; simp)]; rfl
theorem elMov : ElTy Tryz.prog 136 184 3 40 (.agg #[.int .i64 0, .int .i64 0, .slice none 0 0]) := ⟨Tryz.underlying136, by kernel_rfl, rfl, by omega⟩
theorem elStp : ElTy Tryz.prog 221 163 2 16 (.agg #[.int .i64 0, .int .i64 0]) := ⟨Tryz.underlying221, by kernel_rfl, rfl, by omega⟩
theorem filter_take_yes {α : Type} {L : List α} {f : α → Bool} {j : Nat} {x : α} (h : L[j]? = some x) (hf : f x = true) : (L.take (j + 1)).filter f = (L.take j).filter f ++ [x] := by
 rw [List.take_add_one, h, List.filter_append]; simp [hf]
theorem filter_take_no {α : Type} {L : List α} {f : α → Bool} {j : Nat} {x : α} (h : L[j]? = some x) (hf : f x = false) : (L.take (j + 1)).filter f = (L.take j).filter f := by
 rw [List.take_add_one, h, List.filter_append]; simp [hf]
structure MovW (w wr : World) (g : Nat) (bx : List Value) (pv : Value) (pl : List Int) (v : Value) (M : List (Nat × Int × Value)) : Prop where
 ext : Ext w wr
 own : OCel encM 3 184 wr w.heap.size v M
 box : Blk wr g 70 bx
 pl : OInts 3 wr w.heap.size pv pl
theorem MovW.later {w wr w' : World} {g : Nat} {bx : List Value} {pv : Value} {pl : List Int} {v : Value} {M : List (Nat × Int × Value)} (h : MovW w wr g bx pv pl v M) (hx : Ext wr w') : MovW w w' g bx pv pl v M :=
 ⟨h.ext.trans hx, h.own.ext hx, h.box.ext hx, h.pl.ext hx⟩
set_option maxHeartbeats 4000000 in
set_option maxRecDepth 100000 in
theorem moves_c (v wv : Value) (s : List Rul) (l : List Int) (w : World) (h : Ruls w v s) (hw : Ints w wv l) (hs : s.length ≤ 6) (hl : l.length ≤ 8) :
  Calls Tryz.prog 91 #[v, wv] w fun e w' => ∃ v' M, e = .returned v' ∧ OCel encM 3 184 w' w.heap.size v' M ∧ MovIs M (movesL s l) ∧ Ext w w' := by
 obtain ⟨a, c, rfl, h1, h2, H⟩ := h.lit
 obtain ⟨aw, cw, rfl, _⟩ := hw.open_
 have HI := Lib.hid hw
 clear h hw
 go_enter Tryz.func91, Tryz.ntmps91
 go_wp2_with fail
 go_loopg [16, 5] s.length (fun m i v wr => ∃ (k : Nat) (M : List (Nat × Int × Value)) (t5 : Value), k ≤ s.length ∧ s.length ≤ k + m ∧ i = .int .i64 k ∧ t5 = v ∧ Ext w wr ∧ OCel encM 3 184 wr w.heap.size t5 M ∧ Hid (MovIs M (movesTo s l k)))
 case atStart => exact ⟨0, [], _, by omega, by omega, rfl, rfl, Ext.refl _, OCel.nil _ _ _ _ _, Lib.hid ⟨rfl, fun m hm => by cases hm⟩⟩
 case round =>
  obtain ⟨k, M, t5, hk, hk2, rfl, rfl, hB, hown, hM⟩ := hrel
  by_cases hlt : k < s.length
  ·obtain ⟨b, o, rfl, ta, tc, la, lc, ra, rc, c0, c1, c2, c3, hr⟩ := H.out k hlt
   replace c0 := hB.keep c0
   replace c1 := hB.keep c1
   replace c2 := hB.keep c2
   replace c3 := hB.keep c3
   have HR := Lib.hid hr; clear hr
   obtain ⟨g1, rfl⟩ : ∃ g : Nat, g = gk := ⟨_, rfl⟩
   have hml := movesTo_len s l k
   have HSU := Lib.hid (movesTo_succ s l k)
   generalize hx : rulAt s k = x at *
   have HX := Lib.hid hx; clear hx
   rw [movesAt_places] at HSU
   have HOWN := Lib.hid hown; clear hown
   go_wp2_with fail
   refine (Places_c _ _ _ _ x l _ (HR.out.ext (hB.trans (Ext.alloc _ _))) (HI.out.ext (hB.trans (Ext.alloc _ _)))).mono ?_; rintro e w1 ⟨pv, rfl, hpo, hx1⟩
   obtain ⟨pa, pc, rfl, hp1, hp2, HP⟩ := hpo.ints.open_
   have hW : MovW w w1 wr.heap.size [.int .i64 x.f, .slice ta x.t.length tc, .slice la x.l.length lc, .slice ra x.r.length rc] (.slice pa (plL x l).length pc) (plL x l) t5 M :=
    ⟨hB.trans ((Ext.alloc _ _).trans hx1), HOWN.out.ext ((Ext.alloc _ _).trans hx1), (Blk.alloc _ _ _).ext hx1, hpo.low (by have := hB.size; simp; omega)⟩
   have hpl : (plL x l).length ≤ 9 := by
    unfold plL; split
    ·rw [placesL_all]; have := sel_le (l.length + 1) (fun i => placeB x l i); omega
    ·simp
   clear hpo HOWN HP hx1 c0 c1 c2 c3
   generalize hPL : plL x l = PL at *
   have HPL := Lib.hid hPL; clear hPL
   have HW := Lib.hid hW; clear hW
   generalize hg : wr.heap.size = g at *
   clear hg
   go_wp2_with fail
   go_loopg [29, 5] PL.length (fun z i v wr2 => ∃ (j : Nat) (M2 : List (Nat × Int × Value)) (t : Value), j ≤ PL.length ∧ PL.length ≤ j + z ∧ i = .int .i64 j ∧ t = v ∧ MovW w wr2 g [.int .i64 x.f, .slice ta x.t.length tc, .slice la x.l.length lc, .slice ra x.r.length rc] (.slice pa PL.length pc) PL t M2 ∧
     Hid (MovIs M2 (movesTo s l k ++ ((PL.take j).filter (fun p => applyK x l p == 0)).map fun p => (k, p))))
   case atStart => exact ⟨0, M, _, by omega, by omega, rfl, rfl, HW.out, Lib.hid (by simpa using hM.out)⟩
   case round =>
    obtain ⟨j, M2, t, hj, hj2, rfl, rfl, hW2, hM2⟩ := hrel
    by_cases hjl : j < PL.length
    ·obtain ⟨pa', pc', hpe, _, _, HP⟩ := hW2.pl.ints.open_
     injection hpe with hpe1 _ hpe2; subst hpe1 hpe2
     obtain ⟨pb, po, rfl, pcell⟩ := HP.out j hjl
     clear HP
     have b0 := hW2.box.cell (i := 0) rfl
     have b1 := hW2.box.cell (i := 1) rfl
     have b2 := hW2.box.cell (i := 2) rfl
     have b3 := hW2.box.cell (i := 3) rfl
     have hpj : PL[j]? = some (PL[j]?.getD 0) := by simp [hjl]
     have HFY := Lib.hid (fun hf => filter_take_yes (f := fun p => applyK x l p == 0) hpj hf)
     have HFN := Lib.hid (fun hf => filter_take_no (f := fun p => applyK x l p == 0) hpj hf)
     have hM2l : M2.length ≤ 100 := by
      rw [hM2.out.len, List.length_append, List.length_map]
      have := List.length_filter_le (fun p => applyK x l p == 0) (PL.take j)
      have h9 : (PL.take j).length ≤ 9 := by rw [List.length_take]; omega
      have : k * (l.length + 1) ≤ 6 * 9 := Nat.mul_le_mul (by omega) (by omega)
      omega
     clear hpj
     generalize PL[j]?.getD 0 = p at *
     have HAP := Lib.hid (fun W (hx : Ext wr W) => Apply_c _ _ _ _ x l p W (HR.out.ext (hW2.ext.trans hx)) (HI.out.ext (hW2.ext.trans hx)))
     have HW2 := Lib.hid hW2; clear hW2
     have HM2 := Lib.hid hM2.out; clear hM2
     by_cases h0 : applyK x l p = 0
     ·have HF := Lib.hid (HFY.out (by simpa using h0))
      rw [h0] at HAP
      clear HFY HFN h0
      go_wp2_with fail
      refine (HAP.out _ (Ext.refl _)).mono ?_; rintro e w2 ⟨nv, rfl, hno, hx2⟩
      obtain ⟨na, nc, hne, _⟩ := hno.ints.open_
      generalize (applyL x l p).length = nl at *
      subst hne
      clear hno
      have HW3 := Lib.hid (HW2.out.later hx2)
      have hs3 := HW3.out.ext.size
      go_wp2_with (at_builtin; refine wpList_appendS (enc := encM) (L := M2) (k, p, .slice na nl nc) elMov rfl _ _ rfl rfl rfl HW3.out.own rfl rfl rfl (by intro u hu; simp only [encM, List.mem_cons, List.not_mem_nil, or_false] at hu; rcases hu with rfl | rfl | rfl <;> rfl) hs3 (by omega) (by omega) ?_; intro v' w' hown2 hb2 hg2 hn2)
      go_roundg (gk-1)
      case measure => omega
      case rel => exact ⟨j+1, _, _, by omega, by omega, by go_num, rfl, ⟨HW3.out.ext.rowGrown HW3.out.own hg2, hown2, HW3.out.box.rowKept HW3.out.own hg2 (by decide), HW3.out.pl.rowKept HW3.out.own hg2 (by decide)⟩, Lib.hid (by rw [HF.out, List.map_append, ← List.append_assoc]; exact HM2.out.snoc k p na nl nc)⟩
     ·have HF := Lib.hid (HFN.out (by simpa using h0))
      have hd : (applyK x l p == 0) = false := by simpa using h0
      clear HFY HFN h0
      generalize applyK x l p = K at *
      go_wp2_with fail
      refine (HAP.out _ (Ext.refl _)).mono ?_; rintro e w2 ⟨nv, rfl, hno, hx2⟩
      clear hno
      go_wp2_with fail
      go_roundg (gk-1)
      case measure => omega
      case rel => exact ⟨j+1, _, _, by omega, by omega, by go_num, rfl, HW2.out.later hx2, Lib.hid (by rw [HF.out]; exact HM2.out)⟩
    ·obtain rfl : j = PL.length := by omega
     have HM3 := Lib.hid hM2.out
     rw [List.take_length] at HM3
     go_wp2_with fail
     go_roundg (g1-1)
     case measure => omega
     case rel => exact ⟨k+1, M2, _, by omega, by omega, by go_num, rfl, hW2.ext, hW2.own, Lib.hid (by rw [HSU.out]; exact HM3.out)⟩
  ·obtain rfl : k = s.length := by omega
   go_wp2_with fail
   go_ret
   exact ⟨_, M, rfl, hown, hM.out, hB⟩
end Go.Proofs.YtpmlcfgbfhgpgaaGreatDoor
/- Steps, candidates: the program's way. -/
namespace Go.Proofs.YtpmlcfgbfhgpgaaGreatDoor
open Go.RowKit Go.Shelf
set_option linter.unusedVariables false
theorem movesL_len {s : List Rul} {l : List Int} (hs : s.length ≤ 6) (hl : l.length ≤ 8) : (movesL s l).length ≤ 54 := by
 have := movesTo_len s l s.length
 have : s.length * (l.length + 1) ≤ 6 * 9 := Nat.mul_le_mul (by omega) (by omega)
 unfold movesL; omega
theorem checkW_len {s : List Rul} {l : List Int} (h : checkW s l = 0) : s.length ≤ 6 ∧ l.length ≤ 8 ∧ validS s = 0 ∧ validW l = 0 := by
 unfold checkW at h
 split at h
 ·rename_i h0
  refine ⟨?_, ?_, h0, h⟩
  ·unfold validS at h0; split at h0
   ·cases h0
   ·omega
  ·unfold validW at h; split at h
   ·cases h
   ·omega
 ·rename_i h0; exact absurd h h0
def stpsL (s : List Rul) (l : List Int) : List Stp := if checkW s l = 0 then movesL s l else []
set_option maxHeartbeats 4000000 in
set_option maxRecDepth 100000 in
theorem Steps_c (v wv : Value) (s : List Rul) (l : List Int) (w : World) (h : Ruls w v s) (hw : Ints w wv l) :
  Calls Tryz.prog 164 #[v, wv] w fun e w' => ∃ v', e = .returned (.tuple #[v', .int .i64 (checkW s l)]) ∧ OCel encS 2 163 w' w.heap.size v' (stpsL s l) ∧ Ext w w' := by
 obtain ⟨a, c, rfl, _⟩ := h.open_
 obtain ⟨aw, cw, rfl, _⟩ := hw.open_
 have HI := Lib.hid hw
 have HR := Lib.hid h
 have HCK := Lib.hid (fcheck_c _ _ s l _ (h.ext (Ext.alloc w (.cells #[.slice aw l.length cw] 34))) (OneW.new w _ l 34 hw))
 clear h hw
 by_cases h0 : checkW s l = 0
 ·obtain ⟨hs6, hl8, _⟩ := checkW_len h0
  rw [h0] at HCK
  rw [show stpsL s l = movesL s l by rw [stpsL, if_pos h0], h0]
  clear h0
  have hml := movesL_len hs6 hl8
  go_enter Tryz.func164, Tryz.ntmps164
  go_wp2_with fail
  refine HCK.out.mono ?_; rintro e w1 ⟨rfl, hx1⟩
  replace hx1 := (Ext.alloc w (.cells #[.slice aw l.length cw] 34)).trans hx1
  go_wp2_with fail
  refine (moves_c _ _ s l w1 (HR.out.ext hx1) (HI.out.ext hx1) hs6 hl8).mono ?_; rintro e w2 ⟨mv, M, rfl, hmo, hM, hx2⟩
  have HM := Lib.hid hM
  obtain ⟨am, cm, rfl, hm1, hm2, HC⟩ := (Cel.own encM_len hmo).open_
  have hMl := hM.len
  clear hM hmo
  generalize hML : movesL s l = ML at *
  have HML := Lib.hid hML
  clear hML
  replace hx2 := hx1.trans hx2
  clear hx1
  go_wp2_with fail
  go_loopg [21, 7] M.length (fun m i v wr => ∃ (k : Nat) (t : Value), k ≤ M.length ∧ M.length ≤ k + m ∧ i = .int .i64 k ∧ t = v ∧ Ext w2 wr ∧ OCel encS 2 163 wr w2.heap.size t (ML.take k))
  case atStart => exact ⟨0, _, by omega, by omega, rfl, rfl, Ext.refl _, OCel.nil _ _ _ _ _⟩
  case round =>
   obtain ⟨k, t, hk, hk2, rfl, rfl, hB, hown⟩ := hrel
   by_cases hlt : k < M.length
   ·obtain ⟨b, o, rfl, hcs⟩ := HC.out k M[k] (List.getElem?_eq_getElem hlt)
    obtain ⟨na, nn, nc, hne⟩ := HM.out.sl M[k] (List.getElem_mem hlt)
    have hkk : ML[k]? = some (M[k].1, M[k].2.1) := by rw [← HM.out.is, List.getElem?_map, List.getElem?_eq_getElem hlt]; rfl
    have HTK := Lib.hid (show ML.take (k + 1) = ML.take k ++ [(M[k].1, M[k].2.1)] by rw [List.take_add_one, hkk]; rfl)
    generalize M[k] = m at *
    obtain ⟨m1, m2, m3⟩ := m
    dsimp only at hne HTK
    subst hne
    have c0 := hB.keep (hcs 0 _ rfl)
    have c1 := hB.keep (hcs 1 _ rfl)
    have c2 := hB.keep (hcs 2 _ rfl)
    rw [Nat.add_zero] at c0
    have hown3 : OCel encS 2 163 (wr.alloc (.cells #[.int .i64 m1, .int .i64 m2, .slice na nn nc] 184)) w2.heap.size t (ML.take k) := hown.ext (Ext.alloc _ _)
    have htl : (ML.take k).length ≤ 54 := by rw [List.length_take]; omega
    have HOWN := Lib.hid hown3; clear hown hown3 hcs hkk
    have hs2 := hB.size
    generalize ML.take k = LK at *
    clear HC
    go_wp2_with (at_builtin; refine wpList_appendS (enc := encS) (L := LK) (m1, m2) elStp rfl _ _ rfl rfl rfl HOWN.out (by simp) rfl rfl (by intro u hu; simp only [encS, List.mem_cons, List.not_mem_nil, or_false] at hu; rcases hu with rfl | rfl <;> rfl) (by simp; omega) (by omega) (by omega) ?_; intro v' w' hown2 hb2 hg2 hn2)
    go_roundg (gk-1)
    case measure => omega
    case rel => exact ⟨k+1, _, by omega, by omega, by go_num, rfl, (hB.trans (Ext.alloc _ _)).rowGrown HOWN.out hg2, by rw [HTK.out]; exact hown2⟩
   ·obtain rfl : k = M.length := by omega
    rw [List.take_of_length_le (by omega)] at hown
    go_wp2_with fail
    go_ret2
    exact ⟨t, rfl, by rw [HML.out]; exact hown.low hx2.size, hx2.trans hB⟩
 ·rw [show stpsL s l = [] by rw [stpsL, if_neg h0]]
  have hd : (checkW s l != 0) = true := by simp [h0]
  generalize checkW s l = K at *
  clear h0
  go_enter Tryz.func164, Tryz.ntmps164
  go_wp2_with fail
  refine HCK.out.mono ?_; rintro e w1 ⟨rfl, hx1⟩
  replace hx1 := (Ext.alloc w (.cells #[.slice aw l.length cw] 34)).trans hx1
  go_wp2_with fail
  go_ret2
  exact ⟨_, rfl, OCel.nil _ _ _ _ _, hx1⟩
structure Can where
 k : Nat
 p : Int
 f : Int
 t : Value
 l : Value
 r : Value
def encC (c : Can) : List Value := [.int .i64 c.k, .int .i64 c.p, .int .i64 c.f, c.t, c.l, c.r]
theorem encC_len (c : Can) : (encC c).length = 6 := rfl
def Can.stp (c : Can) : Stp := (c.k, c.p)
structure CanOk (w : World) (s : List Rul) (c : Can) : Prop where
 f : c.f = (rulAt s c.k).f
 r : RulR w c.t c.l c.r (rulAt s c.k)
theorem CanOk.ext {w w' : World} {s : List Rul} {c : Can} (h : CanOk w s c) (hx : Ext w w') : CanOk w' s c := ⟨h.f, h.r.ext hx⟩
structure CansIs (w : World) (s : List Rul) (C : List Can) (l : List Stp) : Prop where
 is : C.map Can.stp = l
 ok : ∀ c ∈ C, CanOk w s c
theorem CansIs.len {w : World} {s : List Rul} {C : List Can} {l : List Stp} (h : CansIs w s C l) : C.length = l.length := by rw [← h.is]; simp
theorem CansIs.ext {w w' : World} {s : List Rul} {C : List Can} {l : List Stp} (h : CansIs w s C l) (hx : Ext w w') : CansIs w' s C l := ⟨h.is, fun c hc => (h.ok c hc).ext hx⟩
theorem CansIs.snoc {w : World} {s : List Rul} {C : List Can} {l : List Stp} (h : CansIs w s C l) {c : Can} (hc : CanOk w s c) {a : Stp} (ha : c.stp = a) : CansIs w s (C ++ [c]) (l ++ [a]) := by
 refine ⟨by rw [List.map_append, h.is, ← ha]; rfl, fun m hm => ?_⟩
 rcases List.mem_append.1 hm with hm | hm
 ·exact h.ok m hm
 ·simp only [List.mem_singleton] at hm; subst hm; exact hc
theorem elCan : ElTy Tryz.prog 160 165 6 96 (.agg #[.int .i64 0, .int .i64 0, .int .i64 0, .slice none 0 0, .slice none 0 0, .slice none 0 0]) := ⟨Tryz.underlying160, by kernel_rfl, rfl, by omega⟩
theorem stpsL_at {s : List Rul} {l : List Int} {a : Stp} (h : a ∈ stpsL s l) : a.1 < s.length ∧ 0 ≤ a.2 ∧ a.2 ≤ l.length ∧ applyK (rulAt s a.1) l a.2 = 0 := by
 unfold stpsL at h; split at h
 ·exact movesTo_mem h
 ·cases h
theorem stpsL_len (s : List Rul) (l : List Int) : (stpsL s l).length ≤ 54 := by
 unfold stpsL; split
 ·rename_i h; obtain ⟨h1, h2, _⟩ := checkW_len h; exact movesL_len h1 h2
 ·simp
set_option maxHeartbeats 4000000 in
set_option maxRecDepth 100000 in
theorem candidates_c (v wv : Value) (s : List Rul) (l : List Int) (w : World) (h : Ruls w v s) (hw : Ints w wv l) :
  Calls Tryz.prog 112 #[v, wv] w fun e w' => ∃ v' C, e = .returned v' ∧ OCel encC 6 165 w' w.heap.size v' C ∧ CansIs w s C (stpsL s l) ∧ Ext w w' := by
 have HST := Lib.hid (Steps_c v wv s l w h hw)
 obtain ⟨a, c, rfl, h1, h2, H⟩ := h.lit
 obtain ⟨aw, cw, rfl, _⟩ := hw.open_
 clear h hw
 have HAT := Lib.hid (fun a (h : a ∈ stpsL s l) => stpsL_at h)
 have hsl := stpsL_len s l
 generalize checkW s l = K at *
 generalize stpsL s l = ST at *
 go_enter Tryz.func112, Tryz.ntmps112
 go_wp2_with fail
 refine HST.out.mono ?_; rintro e w1 ⟨sv, rfl, hso, hx1⟩
 obtain ⟨a3, c3, rfl, hm1, hm2, HC⟩ := (Cel.own encS_len hso).open_
 have HSO := Lib.hid hso; clear hso
 go_wp2_with fail
 go_loopg [18, 5] ST.length (fun m i v wr => ∃ (k : Nat) (t : Value) (C : List Can), k ≤ ST.length ∧ ST.length ≤ k + m ∧ i = .int .i64 k ∧ t = v ∧ Ext w1 wr ∧ OCel encC 6 165 wr w1.heap.size t C ∧ Hid (CansIs w s C (ST.take k)))
 case atStart => exact ⟨0, _, [], by omega, by omega, rfl, rfl, Ext.refl _, OCel.nil _ _ _ _ _, Lib.hid ⟨rfl, fun c hc => by cases hc⟩⟩
 case round =>
  obtain ⟨k, t, C, hk, hk2, rfl, rfl, hB, hown, hC⟩ := hrel
  by_cases hlt : k < ST.length
  ·obtain ⟨b, o, rfl, hcs⟩ := HC.out k ST[k] (List.getElem?_eq_getElem hlt)
   obtain ⟨hi1, hi2, hi3, hi4⟩ := HAT.out ST[k] (List.getElem_mem hlt)
   have HTK := Lib.hid (show ST.take (k + 1) = ST.take k ++ [ST[k]] by rw [List.take_add_one, List.getElem?_eq_getElem hlt]; rfl)
   have hCl : C.length ≤ 54 := by rw [hC.out.len, List.length_take]; omega
   generalize ST[k] = m at *
   obtain ⟨m1, m2⟩ := m
   dsimp only at hi1 hi2 hi3 hi4
   have c0 := hB.keep (hcs 0 _ rfl)
   have c1 := hB.keep (hcs 1 _ rfl)
   rw [Nat.add_zero] at c0
   obtain ⟨rb, ro, rfl, ta, tc, la, lc, ra, rc, r0, r1, r2, r3, hr⟩ := H.out m1 hi1
   have hBw : Ext w wr := hx1.trans hB
   generalize hx : rulAt s m1 = x at *
   have hok : CanOk w s ⟨m1, m2, x.f, .slice ta x.t.length tc, .slice la x.l.length lc, .slice ra x.r.length rc⟩ := ⟨by rw [hx], by rw [hx]; exact hr⟩
   have HOK := Lib.hid hok
   clear hx hok hr hi4 hcs HC
   obtain ⟨wA, hwA⟩ : ∃ wA, wA = wr.alloc (.cells #[.int .i64 m1, .int .i64 m2] 163) := ⟨_, rfl⟩
   have hEA : Ext wr wA := by rw [hwA]; exact Ext.alloc _ _
   have qa : wA.cell? ⟨wr.heap.size, 0, none⟩ = some (.int .i64 m1) := by rw [hwA]; exact alloc_cell _ _ _ rfl
   have qb : wA.cell? ⟨wr.heap.size, 1, none⟩ = some (.int .i64 m2) := by rw [hwA]; exact alloc_cell _ _ _ rfl
   have q0 := fun z : InC (Ext wA) => z.h.keep qa
   have q1 := fun z : InC (Ext wA) => z.h.keep qb
   have p0 := fun z : InC (Ext wA) => (hBw.trans (hEA.trans z.h)).keep r0
   have p1 := fun z : InC (Ext wA) => (hBw.trans (hEA.trans z.h)).keep r1
   have p2 := fun z : InC (Ext wA) => (hBw.trans (hEA.trans z.h)).keep r2
   have p3 := fun z : InC (Ext wA) => (hBw.trans (hEA.trans z.h)).keep r3
   have HOWN := Lib.hid (hown.ext hEA); clear hown
   have hBA := hB.trans hEA
   have hs2 := hBA.size
   have HWA := Lib.hid hwA; clear hwA
   clear r0 r1 r2 r3
   go_upto_region 6 with fail
   rw [← HWA.out]
   refine wp_region_peek (Ext wA) (fun _ => True) [9] [.look 0, .look 1, .look 2, .look 3, .look 4, .look 5, .look 6, .look 7, .go 8, .go 9, .peek 10] (by kernel_rfl) (by kernel_rfl) (by intro c a d v w h; cases d <;> exact h) ?_
   have hd : Ext wA { wA with drawn := wA.drawn + 1 } := drawnP_ext wA
   generalize { wA with drawn := wA.drawn + 1 } = W0 at *
   iterate 8 (refine wpPeek_look rfl ‹_› (fun K hK => ?_); go_simp; first | (refine hK _ ?_; clear hK K) | (refine ⟨_, fun _ => rfl, hK _ ?_⟩; clear hK K))
   clear q0 q1 p0 p1 p2 p3
   have HO3 := Lib.hid (HOWN.out.ext hd)
   have hs3 : w1.heap.size ≤ W0.heap.size := Nat.le_trans hs2 hd.size
   refine wpPeek_go rfl rfl (fun K hK => ?_)
   go_wp2_with fail
   refine ⟨KeepE.of (fun h => h.trans (Ext.alloc _ _)) (fun _ => trivial), ?_⟩
   refine wpPeek_go rfl rfl (fun K2 hK2 => ?_)
   refine wpList_appendS (enc := encC) (L := C) (v := t) ⟨m1, m2, x.f, .slice ta x.t.length tc, .slice la x.l.length lc, .slice ra x.r.length rc⟩ elCan rfl _ _ rfl rfl rfl HO3.out rfl rfl rfl (by intro u hu; simp only [encC, List.mem_cons, List.not_mem_nil, or_false] at hu; rcases hu with rfl | rfl | rfl | rfl | rfl | rfl <;> rfl) hs3 (by omega) (by omega) ?_
   intro v' w' hown2 hb2 hg2 hn2
   go_wp2_with fail
   refine ⟨⟨.inl (by decide), fun _ => trivial⟩, ?_⟩
   have htr : (fun _ : World => True) w' := trivial
   (refine wpPeek_peek rfl ‹_› (fun K hK => ?_); go_simp; first | (refine hK _ ?_; clear hK K) | (refine ⟨_, fun _ => rfl, hK _ ?_⟩; clear hK K))
   refine wpPeek_nil ?_
   go_wp2_with fail
   go_roundg (gk-1)
   case measure => omega
   case rel => exact ⟨k+1, _, _, by omega, by omega, by go_num, rfl, (hBA.trans hd).rowGrown HO3.out hg2, hown2, Lib.hid (by rw [HTK.out]; exact hC.out.snoc HOK.out rfl)⟩
  ·obtain rfl : k = ST.length := by omega
   rw [List.take_length] at hC
   go_wp2_with fail
   go_ret
   exact ⟨_, C, rfl, hown.low hx1.size, hC.out, hx1.trans hB⟩
end Go.Proofs.YtpmlcfgbfhgpgaaGreatDoor
