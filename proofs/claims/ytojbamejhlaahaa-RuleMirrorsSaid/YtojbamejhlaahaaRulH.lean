/- A rule at all places, along a word; both packages. -/
import Derived.Test.YtojbamejhlaahaaRulG
namespace Go.Proofs.Ytojbamejhlaahaa
open Go.RowKit Go.Shelf
set_option linter.unusedVariables false

/-- a list in memory of the call's own and an error code -/
def RO2 (l : List Int) (k : Int) (w : World) (e : Ending) (w' : World) : Prop := ∃ v, e = .returned (.tuple #[v, .int .i64 k]) ∧ OInts 3 w' w.heap.size v l ∧ Ext w w'
structure GoodR (x : Rul) : Prop where
  nb : nbB x.f = true
  len : x.t.length ≤ 2
  snd : sndB x.t = true
  l : setB x.l = true
  r : setB x.r = true
theorem validR_zero {x : Rul} (h : validR x = 0) : GoodR x := by
  unfold validR at h
  split at h
  · rename_i h1
    split at h
    · omega
    · rename_i h2
      split at h
      · rename_i h3
        simp only [Bool.and_eq_true] at h3
        exact ⟨h1, by omega, h3.1.1, h3.1.2, h3.2⟩
      · omega
  · omega
theorem validW_zero {w : List Int} (h : validW w = 0) : w.length ≤ 8 ∧ sndB w = true := by
  unfold validW at h
  split at h
  · omega
  · split at h
    · rename_i h1 h2; exact ⟨by omega, h2⟩
    · omega
theorem wordK_zero {x : Rul} {w : List Int} (h : wordK x w = 0) : GoodR x ∧ w.length ≤ 8 ∧ sndB w = true := by
  unfold wordK at h
  split at h
  · rename_i h1; exact ⟨validR_zero h1, validW_zero h⟩
  · omega

set_option maxHeartbeats 2000000 in
set_option maxRecDepth 100000 in
theorem rall_c (tv lv rv wv : Value) (x : Rul) (l : List Int) (w : World) (h : RulR w tv lv rv x) (hw : Ints w wv l) (hf : nbB x.f = true) (hl : l.length ≤ 1000) (ht : x.t.length ≤ 2) :
    Calls Try.prog 79 #[.agg #[.int .i64 x.f, tv, lv, rv], wv] w (ROInts 3 (allL x l) w) := by
  obtain ⟨wA, hwA⟩ : ∃ wA, wA = w.alloc (.cells #[.int .i64 x.f, tv, lv, rv] 24) := ⟨_, rfl⟩
  have hE0 : Ext w wA := by rw [hwA]; exact Ext.alloc _ _
  have k0 : ∀ W, Ext wA W → W.cell? ⟨w.heap.size, 0, none⟩ = some (.int .i64 x.f) := by rw [hwA]; exact kept_alloc w _ _ rfl
  have k1 : ∀ W, Ext wA W → W.cell? ⟨w.heap.size, 1, none⟩ = some tv := by rw [hwA]; exact kept_alloc w _ _ rfl
  have k2 : ∀ W, Ext wA W → W.cell? ⟨w.heap.size, 2, none⟩ = some lv := by rw [hwA]; exact kept_alloc w _ _ rfl
  have k3 : ∀ W, Ext wA W → W.cell? ⟨w.heap.size, 3, none⟩ = some rv := by rw [hwA]; exact kept_alloc w _ _ rfl
  have H0 : Ext wA wA := Ext.refl _
  obtain ⟨aw, cw, rfl, _⟩ := hw.open_
  have HI := Lib.hid (hw.ext hE0)
  have HR := Lib.hid (h.ext hE0)
  have HF := Lib.hid hf
  have HIN := Lib.hid (all_inv x l ht)
  have HST := Lib.hid (fun k (hk : k < (placesL x l).length) => all_step x l ht hk)
  have hpl := places_le x l
  have HAL := Lib.hid (show allL x l = allTo x l (placesL x l).length from rfl)
  have HA0 := Lib.hid (show allTo x l 0 = l from rfl)
  have hs0 := hE0.size
  have HW := Lib.hid hwA; clear hwA hf h hw
  go_enter Try.func79, Try.ntmps79
  go_wp2_with fail
  rw [← HW.out]
  refine (placesOf_c tv lv rv _ x l wA HR.out HI.out HF.out hl).mono ?_; rintro e w1 ⟨v1, rfl, ho1, hx1⟩
  obtain ⟨a1, c1, rfl, _, _, HP⟩ := ho1.ints.open_
  clear ho1
  have hown0 : (w1.alloc (.cells #[] 3)).ownsRow w1.heap.size 3 1 (.slice (some ⟨w1.heap.size, 0, none⟩) 0 0) 0 [] :=
    World.ownsRow_lit (size := 1) (e := 3) (base := w1.heap.size) w1 #[] 0 (by omega) (by unfold maxLen; omega) rfl
  have hraw := ((HI.out.ext hx1).ext (Ext.alloc w1 (.cells #[] 3))).raw
  have hs1 := hx1.size
  have HOWN0 := Lib.hid hown0; clear hown0
  go_wp2_with (at_builtin; refine wpList_appendAll (n := 0) (m := l.length) (B := w1.heap.size) elInts rfl _ _ rfl rfl rfl HOWN0.out hraw (ints_one _) (by simp) (by omega) (by omega) ?_; intro v2 w2 ho2 hb2; have hx2 : Ext w1 w2 := (Ext.alloc _ _).upto hb2 (by omega); replace ho2 : OInts 3 w2 w.heap.size v2 l := (by refine OInts.low (B := w1.heap.size) ?_ (by omega); unfold OInts; simpa using ho2); have HO2 := Lib.hid ho2; clear ho2 hb2 hraw)
  go_loopg [7, 6] (placesL x l).length (fun m i v wr => ∃ (k : Nat) (z : Int), k ≤ (placesL x l).length ∧ (placesL x l).length ≤ k + m ∧ z = ((placesL x l).length : Int) - 1 - k ∧ i = .int .i64 z ∧ Ext w2 wr ∧ OInts 3 wr w.heap.size v (allTo x l k))
  case atStart => exact ⟨0, _, by omega, by omega, by simp, rfl, Ext.refl _, by rw [HA0.out]; exact HO2.out⟩
  case round =>
    obtain ⟨k, z, hk, hk2, hz, rfl, hB, hown⟩ := hrel
    have hXr := (hx1.trans hx2).trans hB
    have hsr := hXr.size
    by_cases hlt : k < (placesL x l).length
    · obtain ⟨n, rfl⟩ : ∃ n : Nat, z = n := ⟨z.toNat, by omega⟩
      have hn : n = (placesL x l).length - 1 - k := by omega
      obtain ⟨i, hi1, hi2, hi3⟩ := HST.out k hlt
      obtain ⟨b, o, rfl, hc⟩ := HP.out n (by omega)
      replace hc := (hx2.trans hB).keep hc
      have hnl : n < (placesL x l).length := by omega
      rw [hn, hi1, ← hn] at hc
      have hlen := (HIN.out k (by omega)).1
      have HPUT := Lib.hid (fun W (hW : Ext wr W) => rput_c tv lv rv _ x (allTo x l k) i W (HR.out.ext (hXr.trans hW)) (hown.ints.ext hW) hi2 (by omega) (by omega) HF.out)
      have HI3 := Lib.hid hi3
      have HNN := Lib.hid hn
      have HZ := Lib.hid hz
      have HO := Lib.hid hown
      clear hn hz hi1 hi2 hi3
      obtain ⟨ao, co, rfl, _⟩ := hown.ints.open_
      clear hown
      generalize allTo x l k = L at *
      go_wp2_with fail
      refine wp_region_peek (Ext wr) (fun _ => True) [] [.look 0, .look 1, .look 2, .look 3, .look 4, .look 5, .go 6, .look 7] (by kernel_rfl) (by kernel_rfl) (by intro c a d v w h; cases d <;> exact h) ?_
      have hd : Ext wr { wr with drawn := wr.drawn + 1 } := drawn_ext wr
      have hs : ∀ s : InC (Ext wr), Ext wA s.w := fun s => hXr.trans s.h
      have q0 := fun s : InC (Ext wr) => s.h.keep hc
      generalize { wr with drawn := wr.drawn + 1 } = W1 at *
      iterate 6 (refine wpPeek_look rfl ‹_› (fun K hK => ?_); go_simp; first | (refine hK _ ?_; clear hK K) | (refine ⟨_, fun _ => rfl, hK _ ?_⟩; clear hK K))
      clear q0
      refine wpPeek_go rfl rfl (fun K hK => ?_)
      go_wp2_with fail
      refine (HPUT.out W1 hd).mono ?_; rintro e W2 ⟨v5, rfl, ho5, hx5⟩
      have hsd := hd.size
      have HO5 := Lib.hid (OInts.low ho5 (show w.heap.size ≤ W1.heap.size by omega))
      clear ho5
      have hd5 := hd.trans hx5
      go_wp2_with fail
      refine ⟨KeepE.of (fun h => h.trans hx5) (fun _ => trivial), ?_⟩
      clear hd
      (refine wpPeek_look rfl ‹_› (fun K hK => ?_); go_simp; first | (refine hK _ ?_; clear hK K) | (refine ⟨_, fun _ => rfl, hK _ ?_⟩; clear hK K))
      refine wpPeek_nil ?_
      clear hs
      go_wp2_with fail
      go_roundg (gk-1)
      case measure => omega
      case rel => exact ⟨k+1, (n : Int) - 1, by omega, by omega, by have := HNN.out; omega, by go_num, hB.trans hd5, by rw [HI3.out]; exact HO5.out⟩
    · obtain rfl : k = (placesL x l).length := by omega
      obtain rfl : z = -1 := by omega
      clear hz
      have HO := Lib.hid hown; clear hown
      go_wp2_with fail
      go_ret
      exact ⟨_, rfl, by rw [HAL.out]; exact HO.out, hE0.trans hXr⟩

theorem short_c (v : Value) (l : List Int) (w : World) (h : Ints w v l) : Calls Try.prog 68 #[v] w (RV (.tuple #[if 8 < l.length then .slice none 0 0 else v, .int .i64 (if 8 < l.length then 3 else 0)]) w) := by
  obtain ⟨a, c, rfl, _⟩ := h.open_
  clear h
  by_cases h8 : 8 < l.length
  · rw [if_pos h8, if_pos h8]
    go_enter Try.func68, Try.ntmps68
    go_wp2_with fail
    go_ret2
    exact RV.mk rfl (Ext.refl _)
  · rw [if_neg h8, if_neg h8]
    go_enter Try.func68, Try.ntmps68
    go_wp2_with fail
    go_ret2
    exact RV.mk rfl (Ext.refl _)

theorem told_c (v : Value) (l : List Int) (w : World) (h : Ints w v l) : Calls Try.prog 78 #[v] w (RV (.tuple #[if 8 < l.length then .slice none 0 0 else v, .int .i64 (if 8 < l.length then 3 else 0)]) w) := by
  obtain ⟨a, c, rfl, _⟩ := h.open_
  clear h
  by_cases h8 : 8 < l.length
  · rw [if_pos h8, if_pos h8]
    go_enter Try.func78, Try.ntmps78
    go_wp2_with fail
    go_ret2
    exact RV.mk rfl (Ext.refl _)
  · rw [if_neg h8, if_neg h8]
    go_enter Try.func78, Try.ntmps78
    go_wp2_with fail
    go_ret2
    exact RV.mk rfl (Ext.refl _)

def shortK (l : List Int) : Int := if 8 < l.length then 3 else 0
def shortL (l : List Int) : List Int := if 8 < l.length then [] else l
def atAllK (x : Rul) (l : List Int) : Int := if wordK x l = 0 then shortK (allL x l) else wordK x l
def atAllL (x : Rul) (l : List Int) : List Int := if wordK x l = 0 then shortL (allL x l) else []
theorem short_own {w : World} {B : Nat} {v : Value} {l : List Int} (h : OInts 3 w B v l) : OInts 3 w B (if 8 < l.length then .slice none 0 0 else v) (shortL l) := by
  unfold shortL; split
  · exact OInts.nil _ _ _
  · exact h

set_option maxHeartbeats 1000000 in
set_option maxRecDepth 100000 in
theorem AtAll_c (tv lv rv wv : Value) (x : Rul) (l : List Int) (w : World) (h : RulR w tv lv rv x) (hw : Ints w wv l) :
    Calls Try.prog 23 #[.agg #[.int .i64 x.f, tv, lv, rv], wv] w (RO2 (atAllL x l) (atAllK x l) w) := by
  obtain ⟨wA, hwA⟩ : ∃ wA, wA = w.alloc (.cells #[.int .i64 x.f, tv, lv, rv] 24) := ⟨_, rfl⟩
  have hE0 : Ext w wA := by rw [hwA]; exact Ext.alloc _ _
  have k0 : ∀ W, Ext wA W → W.cell? ⟨w.heap.size, 0, none⟩ = some (.int .i64 x.f) := by rw [hwA]; exact kept_alloc w _ _ rfl
  have k1 : ∀ W, Ext wA W → W.cell? ⟨w.heap.size, 1, none⟩ = some tv := by rw [hwA]; exact kept_alloc w _ _ rfl
  have k2 : ∀ W, Ext wA W → W.cell? ⟨w.heap.size, 2, none⟩ = some lv := by rw [hwA]; exact kept_alloc w _ _ rfl
  have k3 : ∀ W, Ext wA W → W.cell? ⟨w.heap.size, 3, none⟩ = some rv := by rw [hwA]; exact kept_alloc w _ _ rfl
  have H0 : Ext wA wA := Ext.refl _
  have HI := Lib.hid (hw.ext hE0)
  have HR := Lib.hid (h.ext hE0)
  have HK := Lib.hid (worded_c tv lv rv wv x l wA (h.ext hE0) (hw.ext hE0))
  have hs0 := hE0.size
  obtain ⟨aw, cw, rfl, _⟩ := hw.open_
  have HW := Lib.hid hwA; clear hwA h hw
  by_cases h0 : wordK x l = 0
  · obtain ⟨G, hl8, hsn⟩ := wordK_zero h0
    have HG := Lib.hid G; have HS := Lib.hid hsn; clear G hsn
    have ht2 := HG.out.len
    rw [atAllK, atAllL, if_pos h0, if_pos h0]
    rw [h0] at HK
    clear h0
    go_enter Try.func23, Try.ntmps23
    go_wp2_with fail
    rw [← HW.out]
    refine HK.out.mono ?_; rintro e w1 ⟨rfl, hx1⟩
    have hs1 := hx1.size
    go_wp2_with fail
    refine (all_c tv lv rv _ x l w1 (HR.out.ext hx1) (HI.out.ext hx1) HS.out (by omega) ht2).mono ?_; rintro e w2 ⟨v2, rfl, ho2, hx2⟩
    have HO2 := Lib.hid ho2; clear ho2
    go_wp2_with fail
    refine (short_c v2 _ w2 HO2.out.ints).mono ?_; rintro e w3 ⟨rfl, hx3⟩
    have HSH := Lib.hid (short_own (OInts.low (HO2.out.ext hx3) (show w.heap.size ≤ w1.heap.size by omega)))
    have HSK := Lib.hid (show (if 8 < (allL x l).length then (3 : Int) else 0) = shortK (allL x l) from rfl)
    rw [HSK.out]
    generalize shortK (allL x l) = sk at *
    generalize (if 8 < (allL x l).length then Value.slice none 0 0 else v2) = sv at *
    go_wp2_with fail
    go_ret2
    exact ⟨_, rfl, HSH.out, hE0.trans (hx1.trans (hx2.trans hx3))⟩
  · rw [atAllK, atAllL, if_neg h0, if_neg h0]
    have hk : (wordK x l != 0) = true := by simp [h0]
    generalize wordK x l = k at *
    clear h0
    go_enter Try.func23, Try.ntmps23
    go_wp2_with fail
    rw [← HW.out]
    refine HK.out.mono ?_; rintro e w1 ⟨rfl, hx1⟩
    go_wp2_with fail
    go_ret2
    exact ⟨_, rfl, OInts.nil _ _ _, hE0.trans hx1⟩

set_option maxHeartbeats 1000000 in
set_option maxRecDepth 100000 in
theorem rAtAll_c (tv lv rv wv : Value) (x : Rul) (l : List Int) (w : World) (h : RulR w tv lv rv x) (hw : Ints w wv l) :
    Calls Try.prog 30 #[.agg #[.int .i64 x.f, tv, lv, rv], wv] w (RO2 (atAllL x l) (atAllK x l) w) := by
  obtain ⟨wA, hwA⟩ : ∃ wA, wA = w.alloc (.cells #[.int .i64 x.f, tv, lv, rv] 24) := ⟨_, rfl⟩
  have hE0 : Ext w wA := by rw [hwA]; exact Ext.alloc _ _
  have k0 : ∀ W, Ext wA W → W.cell? ⟨w.heap.size, 0, none⟩ = some (.int .i64 x.f) := by rw [hwA]; exact kept_alloc w _ _ rfl
  have k1 : ∀ W, Ext wA W → W.cell? ⟨w.heap.size, 1, none⟩ = some tv := by rw [hwA]; exact kept_alloc w _ _ rfl
  have k2 : ∀ W, Ext wA W → W.cell? ⟨w.heap.size, 2, none⟩ = some lv := by rw [hwA]; exact kept_alloc w _ _ rfl
  have k3 : ∀ W, Ext wA W → W.cell? ⟨w.heap.size, 3, none⟩ = some rv := by rw [hwA]; exact kept_alloc w _ _ rfl
  have H0 : Ext wA wA := Ext.refl _
  have HI := Lib.hid (hw.ext hE0)
  have HR := Lib.hid (h.ext hE0)
  have HK := Lib.hid (asked_c tv lv rv wv x l wA (h.ext hE0) (hw.ext hE0))
  have hs0 := hE0.size
  obtain ⟨aw, cw, rfl, _⟩ := hw.open_
  have HW := Lib.hid hwA; clear hwA h hw
  by_cases h0 : wordK x l = 0
  · obtain ⟨G, hl8, hsn⟩ := wordK_zero h0
    have HG := Lib.hid G; have HS := Lib.hid hsn; clear G hsn
    have ht2 := HG.out.len
    rw [atAllK, atAllL, if_pos h0, if_pos h0]
    rw [h0] at HK
    clear h0
    go_enter Try.func30, Try.ntmps30
    go_wp2_with fail
    rw [← HW.out]
    refine HK.out.mono ?_; rintro e w1 ⟨rfl, hx1⟩
    have hs1 := hx1.size
    go_wp2_with fail
    refine (rall_c tv lv rv _ x l w1 (HR.out.ext hx1) (HI.out.ext hx1) HG.out.nb (by omega) ht2).mono ?_; rintro e w2 ⟨v2, rfl, ho2, hx2⟩
    have HO2 := Lib.hid ho2; clear ho2
    go_wp2_with fail
    refine (told_c v2 _ w2 HO2.out.ints).mono ?_; rintro e w3 ⟨rfl, hx3⟩
    have HSH := Lib.hid (short_own (OInts.low (HO2.out.ext hx3) (show w.heap.size ≤ w1.heap.size by omega)))
    have HSK := Lib.hid (show (if 8 < (allL x l).length then (3 : Int) else 0) = shortK (allL x l) from rfl)
    rw [HSK.out]
    generalize shortK (allL x l) = sk at *
    generalize (if 8 < (allL x l).length then Value.slice none 0 0 else v2) = sv at *
    go_wp2_with fail
    go_ret2
    exact ⟨_, rfl, HSH.out, hE0.trans (hx1.trans (hx2.trans hx3))⟩
  · rw [atAllK, atAllL, if_neg h0, if_neg h0]
    have hk : (wordK x l != 0) = true := by simp [h0]
    generalize wordK x l = k at *
    clear h0
    go_enter Try.func30, Try.ntmps30
    go_wp2_with fail
    rw [← HW.out]
    refine HK.out.mono ?_; rintro e w1 ⟨rfl, hx1⟩
    go_wp2_with fail
    go_ret2
    exact ⟨_, rfl, OInts.nil _ _ _, hE0.trans hx1⟩

def plK (x : Rul) (l : List Int) : Int := wordK x l
def plL (x : Rul) (l : List Int) : List Int := if wordK x l = 0 then placesL x l else []

set_option maxHeartbeats 1000000 in
set_option maxRecDepth 100000 in
theorem Places_c (tv lv rv wv : Value) (x : Rul) (l : List Int) (w : World) (h : RulR w tv lv rv x) (hw : Ints w wv l) :
    Calls Try.prog 24 #[.agg #[.int .i64 x.f, tv, lv, rv], wv] w (RO2 (plL x l) (plK x l) w) := by
  obtain ⟨wA, hwA⟩ : ∃ wA, wA = w.alloc (.cells #[.int .i64 x.f, tv, lv, rv] 24) := ⟨_, rfl⟩
  have hE0 : Ext w wA := by rw [hwA]; exact Ext.alloc _ _
  have k0 : ∀ W, Ext wA W → W.cell? ⟨w.heap.size, 0, none⟩ = some (.int .i64 x.f) := by rw [hwA]; exact kept_alloc w _ _ rfl
  have k1 : ∀ W, Ext wA W → W.cell? ⟨w.heap.size, 1, none⟩ = some tv := by rw [hwA]; exact kept_alloc w _ _ rfl
  have k2 : ∀ W, Ext wA W → W.cell? ⟨w.heap.size, 2, none⟩ = some lv := by rw [hwA]; exact kept_alloc w _ _ rfl
  have k3 : ∀ W, Ext wA W → W.cell? ⟨w.heap.size, 3, none⟩ = some rv := by rw [hwA]; exact kept_alloc w _ _ rfl
  have H0 : Ext wA wA := Ext.refl _
  have HI := Lib.hid (hw.ext hE0)
  have HR := Lib.hid (h.ext hE0)
  have HK := Lib.hid (worded_c tv lv rv wv x l wA (h.ext hE0) (hw.ext hE0))
  have hs0 := hE0.size
  obtain ⟨aw, cw, rfl, _⟩ := hw.open_
  have HW := Lib.hid hwA; clear hwA h hw
  by_cases h0 : wordK x l = 0
  · obtain ⟨G, hl8, hsn⟩ := wordK_zero h0
    have HG := Lib.hid G; have HS := Lib.hid hsn; clear G hsn
    have ht2 := HG.out.len
    rw [plK, plL, if_pos h0, h0]
    rw [h0] at HK
    clear h0
    go_enter Try.func24, Try.ntmps24
    go_wp2_with fail
    rw [← HW.out]
    refine HK.out.mono ?_; rintro e w1 ⟨rfl, hx1⟩
    have hs1 := hx1.size
    go_wp2_with fail
    refine (places_c tv lv rv _ x l w1 (HR.out.ext hx1) (HI.out.ext hx1) HS.out (by omega)).mono ?_; rintro e w2 ⟨v2, rfl, ho2, hx2⟩
    have HO2 := Lib.hid (OInts.low ho2 (show w.heap.size ≤ w1.heap.size by omega)); clear ho2
    go_wp2_with fail
    go_ret2
    exact ⟨_, rfl, HO2.out, hE0.trans (hx1.trans hx2)⟩
  · rw [plK, plL, if_neg h0]
    have hk : (wordK x l != 0) = true := by simp [h0]
    generalize wordK x l = k at *
    clear h0
    go_enter Try.func24, Try.ntmps24
    go_wp2_with fail
    rw [← HW.out]
    refine HK.out.mono ?_; rintro e w1 ⟨rfl, hx1⟩
    go_wp2_with fail
    go_ret2
    exact ⟨_, rfl, OInts.nil _ _ _, hE0.trans hx1⟩

set_option maxHeartbeats 1000000 in
set_option maxRecDepth 100000 in
theorem rPlaces_c (tv lv rv wv : Value) (x : Rul) (l : List Int) (w : World) (h : RulR w tv lv rv x) (hw : Ints w wv l) :
    Calls Try.prog 25 #[.agg #[.int .i64 x.f, tv, lv, rv], wv] w (RO2 (plL x l) (plK x l) w) := by
  obtain ⟨wA, hwA⟩ : ∃ wA, wA = w.alloc (.cells #[.int .i64 x.f, tv, lv, rv] 24) := ⟨_, rfl⟩
  have hE0 : Ext w wA := by rw [hwA]; exact Ext.alloc _ _
  have k0 : ∀ W, Ext wA W → W.cell? ⟨w.heap.size, 0, none⟩ = some (.int .i64 x.f) := by rw [hwA]; exact kept_alloc w _ _ rfl
  have k1 : ∀ W, Ext wA W → W.cell? ⟨w.heap.size, 1, none⟩ = some tv := by rw [hwA]; exact kept_alloc w _ _ rfl
  have k2 : ∀ W, Ext wA W → W.cell? ⟨w.heap.size, 2, none⟩ = some lv := by rw [hwA]; exact kept_alloc w _ _ rfl
  have k3 : ∀ W, Ext wA W → W.cell? ⟨w.heap.size, 3, none⟩ = some rv := by rw [hwA]; exact kept_alloc w _ _ rfl
  have H0 : Ext wA wA := Ext.refl _
  have HI := Lib.hid (hw.ext hE0)
  have HR := Lib.hid (h.ext hE0)
  have HK := Lib.hid (asked_c tv lv rv wv x l wA (h.ext hE0) (hw.ext hE0))
  have hs0 := hE0.size
  obtain ⟨aw, cw, rfl, _⟩ := hw.open_
  have HW := Lib.hid hwA; clear hwA h hw
  by_cases h0 : wordK x l = 0
  · obtain ⟨G, hl8, hsn⟩ := wordK_zero h0
    have HG := Lib.hid G; have HS := Lib.hid hsn; clear G hsn
    have ht2 := HG.out.len
    rw [plK, plL, if_pos h0, h0]
    rw [h0] at HK
    clear h0
    go_enter Try.func25, Try.ntmps25
    go_wp2_with fail
    rw [← HW.out]
    refine HK.out.mono ?_; rintro e w1 ⟨rfl, hx1⟩
    have hs1 := hx1.size
    go_wp2_with fail
    refine (placesOf_c tv lv rv _ x l w1 (HR.out.ext hx1) (HI.out.ext hx1) HG.out.nb (by omega)).mono ?_; rintro e w2 ⟨v2, rfl, ho2, hx2⟩
    have HO2 := Lib.hid (OInts.low ho2 (show w.heap.size ≤ w1.heap.size by omega)); clear ho2
    go_wp2_with fail
    go_ret2
    exact ⟨_, rfl, HO2.out, hE0.trans (hx1.trans hx2)⟩
  · rw [plK, plL, if_neg h0]
    have hk : (wordK x l != 0) = true := by simp [h0]
    generalize wordK x l = k at *
    clear h0
    go_enter Try.func25, Try.ntmps25
    go_wp2_with fail
    rw [← HW.out]
    refine HK.out.mono ?_; rintro e w1 ⟨rfl, hx1⟩
    go_wp2_with fail
    go_ret2
    exact ⟨_, rfl, OInts.nil _ _ _, hE0.trans hx1⟩
end Go.Proofs.Ytojbamejhlaahaa

