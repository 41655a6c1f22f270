/- A rule at its first place; both packages. -/
import Derived.Test.YtojbamejhlaahaaRulJ
namespace Go.Proofs.Ytojbamejhlaahaa
open Go.RowKit Go.Shelf
set_option linter.unusedVariables false

def p0 (x : Rul) (l : List Int) : Nat := ((placesL x l)[0]?.getD 0).toNat
def firstK (x : Rul) (l : List Int) : Int := if wordK x l = 0 then (if (placesL x l).length = 0 then 0 else shortK (putL x l (p0 x l))) else wordK x l
def firstB (x : Rul) (l : List Int) : Bool := if wordK x l = 0 then (if (placesL x l).length = 0 then false else shortK (putL x l (p0 x l)) == 0) else false
def firstL (x : Rul) (l : List Int) : List Int := if wordK x l = 0 then (if (placesL x l).length = 0 then [] else shortL (putL x l (p0 x l))) else []
def RF (l : List Int) (b : Bool) (k : Int) (w : World) (e : Ending) (w' : World) : Prop := ∃ v, e = .returned (.tuple #[v, .bool b, .int .i64 k]) ∧ OInts 3 w' w.heap.size v l ∧ Ext w w'
theorem first_place {x : Rul} {l : List Int} (h : (placesL x l).length ≠ 0) : ∃ i : Nat, (placesL x l)[0]?.getD 0 = (i : Int) ∧ p0 x l = i ∧ placeB x l i = true := by
  have h0 : 0 < (placesL x l).length := by omega
  unfold p0
  rw [placesL_all] at h0 ⊢
  obtain ⟨i, _, h2, h3⟩ := sel_get h0
  exact ⟨i, h3, by rw [h3]; simp, h2⟩

set_option maxHeartbeats 1000000 in
set_option maxRecDepth 100000 in
theorem First_c (tv lv rv wv : Value) (x : Rul) (l : List Int) (w : World) (h : RulR w tv lv rv x) (hw : Ints w wv l) :
    Calls Try.prog 40 #[.agg #[.int .i64 x.f, tv, lv, rv], wv] w (RF (firstL x l) (firstB x l) (firstK x l) w) := by
  obtain ⟨wA, hwA⟩ : ∃ wA, wA = w.alloc (.cells #[.int .i64 x.f, tv, lv, rv] 24) := ⟨_, rfl⟩
  have hE0 : Ext w wA := by rw [hwA]; exact Ext.alloc _ _
  have k0 : ∀ W, Ext wA W → W.cell? ⟨w.heap.size, 0, none⟩ = some (.int .i64 x.f) := by rw [hwA]; exact kept_alloc w _ _ rfl
  have k1 : ∀ W, Ext wA W → W.cell? ⟨w.heap.size, 1, none⟩ = some tv := by rw [hwA]; exact kept_alloc w _ _ rfl
  have k2 : ∀ W, Ext wA W → W.cell? ⟨w.heap.size, 2, none⟩ = some lv := by rw [hwA]; exact kept_alloc w _ _ rfl
  have k3 : ∀ W, Ext wA W → W.cell? ⟨w.heap.size, 3, none⟩ = some rv := by rw [hwA]; exact kept_alloc w _ _ rfl
  have H0 : Ext wA wA := Ext.refl _
  have HI := Lib.hid (hw.ext hE0)
  have HR := Lib.hid (h.ext hE0)
  have HK := Lib.hid (worded_c tv lv rv wv x l wA (h.ext hE0) (hw.ext hE0))
  have hs0 := hE0.size
  obtain ⟨aw, cw, rfl, _⟩ := hw.open_
  have HW := Lib.hid hwA; clear hwA h hw
  by_cases h0 : wordK x l = 0
  · obtain ⟨G, hl8, hsn⟩ := wordK_zero h0
    have HG := Lib.hid G; have HS := Lib.hid hsn; clear G hsn
    have ht2 := HG.out.len
    rw [firstK, firstB, firstL, if_pos h0, if_pos h0, if_pos h0]
    rw [h0] at HK
    clear h0
    by_cases hn : (placesL x l).length = 0
    · rw [if_pos hn, if_pos hn, if_pos hn]
      go_enter Try.func40, Try.ntmps40
      go_wp2_with fail
      rw [← HW.out]
      refine HK.out.mono ?_; rintro e w1 ⟨rfl, hx1⟩
      have hs1 := hx1.size
      go_wp2_with fail
      refine (places_c tv lv rv _ x l w1 (HR.out.ext hx1) (HI.out.ext hx1) HS.out (by omega)).mono ?_; rintro e w2 ⟨v2, rfl, ho2, hx2⟩
      obtain ⟨a2, c2, rfl, _, _, H2⟩ := ho2.ints.open_
      clear ho2
      have hX2 := hx1.trans hx2
      clear H2
      generalize (placesL x l).length = m at *
      subst hn
      go_wp2_with fail
      go_ret3
      exact ⟨_, rfl, OInts.nil _ _ _, hE0.trans hX2⟩
    · obtain ⟨n, hfi, hp0, hpb⟩ := first_place hn
      have HFI := Lib.hid hfi
      have hfit := placeB_nat hpb
      rw [if_neg hn, if_neg hn, if_neg hn, hp0]
      clear hfi hpb hp0
      go_enter Try.func40, Try.ntmps40
      go_wp2_with fail
      rw [← HW.out]
      refine HK.out.mono ?_; rintro e w1 ⟨rfl, hx1⟩
      have hs1 := hx1.size
      go_wp2_with fail
      refine (places_c tv lv rv _ x l w1 (HR.out.ext hx1) (HI.out.ext hx1) HS.out (by omega)).mono ?_; rintro e w2 ⟨v2, rfl, ho2, hx2⟩
      obtain ⟨a2, c2, rfl, _, _, H2⟩ := ho2.ints.open_
      clear ho2
      have hX2 := hx1.trans hx2
      obtain ⟨b, o, rfl, hc⟩ := H2.out 0 (by omega)
      rw [HFI.out, Nat.add_zero] at hc
      clear H2
      generalize (placesL x l).length = m at *
      have hmb : ((m : Int) == 0) = false := by simp; omega
      have hm0 : 0 < m := by omega
      go_wp2_with fail
      refine wp_region_peek (Ext w2) (fun _ => True) [] [.look 0, .look 1, .look 2, .look 3, .look 4, .go 5, .go 6, .look 7, .look 8, .look 9, .look 10, .look 11] (by kernel_rfl) (by kernel_rfl) (by intro c a d v w h; cases d <;> exact h) ?_
      have hd : Ext w2 { w2 with drawn := w2.drawn + 1 } := drawn_ext w2
      have hs : ∀ s : InC (Ext w2), Ext wA s.w := fun s => hX2.trans s.h
      have q0 := fun s : InC (Ext w2) => s.h.keep hc
      have hXd := hX2.trans hd
      have hsd := hXd.size
      generalize { w2 with drawn := w2.drawn + 1 } = W1 at *
      iterate 5 (refine wpPeek_look rfl ‹_› (fun K hK => ?_); go_simp; first | (refine hK _ ?_; clear hK K) | (refine ⟨_, fun _ => rfl, hK _ ?_⟩; clear hK K))
      clear q0
      refine wpPeek_go rfl rfl (fun K hK => ?_)
      go_wp2_with fail
      refine (put_c tv lv rv _ x l n W1 (HR.out.ext hXd) (HI.out.ext hXd) hfit (by omega) (by omega)).mono ?_; rintro e W2 ⟨v4, rfl, ho4, hx4⟩
      have HO4 := Lib.hid ho4; clear ho4
      generalize putL x l n = L at *
      go_wp2_with fail
      refine ⟨KeepE.of (fun h => h.trans hx4) (fun _ => trivial), ?_⟩
      refine wpPeek_go rfl rfl (fun K2 hK2 => ?_)
      go_wp2_with fail
      refine (short_c v4 _ W2 HO4.out.ints).mono ?_; rintro e W3 ⟨rfl, hx5⟩
      have HSH := Lib.hid (short_own (OInts.low (HO4.out.ext hx5) (show w.heap.size ≤ W1.heap.size by omega)))
      have HSK := Lib.hid (show (if 8 < L.length then (3 : Int) else 0) = shortK L from rfl)
      rw [HSK.out]
      generalize shortK L = sk at *
      generalize (if 8 < L.length then Value.slice none 0 0 else v4) = sv at *
      go_wp2_with fail
      refine ⟨KeepE.of (fun h => h.trans hx5) (fun _ => trivial), ?_⟩
      have hd5 := (hd.trans hx4).trans hx5
      clear hd
      iterate 5 (refine wpPeek_look rfl ‹_› (fun K hK => ?_); go_simp; first | (refine hK _ ?_; clear hK K) | (refine ⟨_, fun _ => rfl, hK _ ?_⟩; clear hK K))
      refine wpPeek_nil ?_
      clear hs
      cases hsk : (sk == (0 : Int))
      · go_wp2_with fail
        go_ret3
        exact ⟨sv, by first | rfl | (rw [hsk]; rfl) | (rw [hsk]; done), HSH.out, hE0.trans (hXd.trans (hx4.trans hx5))⟩
      · go_wp2_with fail
        go_ret3
        exact ⟨sv, by first | rfl | (rw [hsk]; rfl) | (rw [hsk]; done), HSH.out, hE0.trans (hXd.trans (hx4.trans hx5))⟩
  · rw [firstK, firstB, firstL, if_neg h0, if_neg h0, if_neg h0]
    have hk : (wordK x l != 0) = true := by simp [h0]
    generalize wordK x l = k at *
    clear h0
    go_enter Try.func40, Try.ntmps40
    go_wp2_with fail
    rw [← HW.out]
    refine HK.out.mono ?_; rintro e w1 ⟨rfl, hx1⟩
    go_wp2_with fail
    go_ret3
    exact ⟨_, rfl, OInts.nil _ _ _, hE0.trans hx1⟩

set_option maxHeartbeats 1000000 in
set_option maxRecDepth 100000 in
theorem rFirst_c (tv lv rv wv : Value) (x : Rul) (l : List Int) (w : World) (h : RulR w tv lv rv x) (hw : Ints w wv l) :
    Calls Try.prog 41 #[.agg #[.int .i64 x.f, tv, lv, rv], wv] w (RF (firstL x l) (firstB x l) (firstK x l) w) := by
  obtain ⟨wA, hwA⟩ : ∃ wA, wA = w.alloc (.cells #[.int .i64 x.f, tv, lv, rv] 24) := ⟨_, rfl⟩
  have hE0 : Ext w wA := by rw [hwA]; exact Ext.alloc _ _
  have k0 : ∀ W, Ext wA W → W.cell? ⟨w.heap.size, 0, none⟩ = some (.int .i64 x.f) := by rw [hwA]; exact kept_alloc w _ _ rfl
  have k1 : ∀ W, Ext wA W → W.cell? ⟨w.heap.size, 1, none⟩ = some tv := by rw [hwA]; exact kept_alloc w _ _ rfl
  have k2 : ∀ W, Ext wA W → W.cell? ⟨w.heap.size, 2, none⟩ = some lv := by rw [hwA]; exact kept_alloc w _ _ rfl
  have k3 : ∀ W, Ext wA W → W.cell? ⟨w.heap.size, 3, none⟩ = some rv := by rw [hwA]; exact kept_alloc w _ _ rfl
  have H0 : Ext wA wA := Ext.refl _
  have HI := Lib.hid (hw.ext hE0)
  have HR := Lib.hid (h.ext hE0)
  have HP := Lib.hid (rPlaces_c tv lv rv wv x l wA (h.ext hE0) (hw.ext hE0))
  have hs0 := hE0.size
  obtain ⟨aw, cw, rfl, _⟩ := hw.open_
  have HW := Lib.hid hwA; clear hwA h hw
  unfold plK plL at HP
  by_cases h0 : wordK x l = 0
  · obtain ⟨G, hl8, hsn⟩ := wordK_zero h0
    have HG := Lib.hid G; clear G hsn
    have ht2 := HG.out.len
    rw [firstK, firstB, firstL, if_pos h0, if_pos h0, if_pos h0]
    rw [if_pos h0, h0] at HP
    clear h0
    by_cases hn : (placesL x l).length = 0
    · rw [if_pos hn, if_pos hn, if_pos hn]
      go_enter Try.func41, Try.ntmps41
      go_wp2_with fail
      rw [← HW.out]
      refine HP.out.mono ?_; rintro e w2 ⟨v2, rfl, ho2, hX2⟩
      obtain ⟨a2, c2, rfl, _, _, H2⟩ := ho2.ints.open_
      clear ho2
      clear H2
      generalize (placesL x l).length = m at *
      subst hn
      go_wp2_with fail
      go_ret3
      exact ⟨_, rfl, OInts.nil _ _ _, hE0.trans hX2⟩
    · obtain ⟨n, hfi, hp0, hpb⟩ := first_place hn
      have HFI := Lib.hid hfi
      have hfit := placeB_nat hpb
      rw [if_neg hn, if_neg hn, if_neg hn, hp0]
      clear hfi hpb hp0
      go_enter Try.func41, Try.ntmps41
      go_wp2_with fail
      rw [← HW.out]
      refine HP.out.mono ?_; rintro e w2 ⟨v2, rfl, ho2, hX2⟩
      obtain ⟨a2, c2, rfl, _, _, H2⟩ := ho2.ints.open_
      clear ho2
      obtain ⟨b, o, rfl, hc⟩ := H2.out 0 (by omega)
      rw [HFI.out, Nat.add_zero] at hc
      clear H2
      generalize (placesL x l).length = m at *
      have hmb : ((m : Int) == 0) = false := by simp; omega
      have hm0 : 0 < m := by omega
      go_wp2_with fail
      refine wp_region_peek (Ext w2) (fun _ => True) [] [.look 0, .look 1, .look 2, .look 3, .look 4, .go 5, .go 6, .look 7, .look 8, .look 9, .look 10, .look 11] (by kernel_rfl) (by kernel_rfl) (by intro c a d v w h; cases d <;> exact h) ?_
      have hd : Ext w2 { w2 with drawn := w2.drawn + 1 } := drawn_ext w2
      have hs : ∀ s : InC (Ext w2), Ext wA s.w := fun s => hX2.trans s.h
      have q0 := fun s : InC (Ext w2) => s.h.keep hc
      have hXd := hX2.trans hd
      have hsd := hXd.size
      generalize { w2 with drawn := w2.drawn + 1 } = W1 at *
      iterate 5 (refine wpPeek_look rfl ‹_› (fun K hK => ?_); go_simp; first | (refine hK _ ?_; clear hK K) | (refine ⟨_, fun _ => rfl, hK _ ?_⟩; clear hK K))
      clear q0
      refine wpPeek_go rfl rfl (fun K hK => ?_)
      go_wp2_with fail
      refine (rput_c tv lv rv _ x l n W1 (HR.out.ext hXd) (HI.out.ext hXd) hfit (by omega) (by omega) HG.out.nb).mono ?_; rintro e W2 ⟨v4, rfl, ho4, hx4⟩
      have HO4 := Lib.hid ho4; clear ho4
      generalize putL x l n = L at *
      go_wp2_with fail
      refine ⟨KeepE.of (fun h => h.trans hx4) (fun _ => trivial), ?_⟩
      refine wpPeek_go rfl rfl (fun K2 hK2 => ?_)
      go_wp2_with fail
      refine (told_c v4 _ W2 HO4.out.ints).mono ?_; rintro e W3 ⟨rfl, hx5⟩
      have HSH := Lib.hid (short_own (OInts.low (HO4.out.ext hx5) (show w.heap.size ≤ W1.heap.size by omega)))
      have HSK := Lib.hid (show (if 8 < L.length then (3 : Int) else 0) = shortK L from rfl)
      rw [HSK.out]
      generalize shortK L = sk at *
      generalize (if 8 < L.length then Value.slice none 0 0 else v4) = sv at *
      go_wp2_with fail
      refine ⟨KeepE.of (fun h => h.trans hx5) (fun _ => trivial), ?_⟩
      have hd5 := (hd.trans hx4).trans hx5
      clear hd
      iterate 5 (refine wpPeek_look rfl ‹_› (fun K hK => ?_); go_simp; first | (refine hK _ ?_; clear hK K) | (refine ⟨_, fun _ => rfl, hK _ ?_⟩; clear hK K))
      refine wpPeek_nil ?_
      clear hs
      cases hsk : (sk == (0 : Int))
      · go_wp2_with fail
        go_ret3
        exact ⟨sv, by first | rfl | (rw [hsk]; rfl) | (rw [hsk]; done), HSH.out, hE0.trans (hXd.trans (hx4.trans hx5))⟩
      · go_wp2_with fail
        go_ret3
        exact ⟨sv, by first | rfl | (rw [hsk]; rfl) | (rw [hsk]; done), HSH.out, hE0.trans (hXd.trans (hx4.trans hx5))⟩
  · rw [firstK, firstB, firstL, if_neg h0, if_neg h0, if_neg h0]
    rw [if_neg h0] at HP
    have hk : (wordK x l != 0) = true := by simp [h0]
    generalize wordK x l = k at *
    clear h0
    go_enter Try.func41, Try.ntmps41
    go_wp2_with fail
    rw [← HW.out]
    refine HP.out.mono ?_; rintro e w2 ⟨v2, rfl, ho2, hX2⟩
    obtain ⟨a2, c2, rfl, _, _, H2⟩ := ho2.ints.open_
    clear ho2
    clear H2
    go_wp2_with fail
    go_ret3
    exact ⟨_, rfl, OInts.nil _ _ _, hE0.trans hX2⟩
end Go.Proofs.Ytojbamejhlaahaa

