/- Words turned round, of both packages. -/
import Derived.Test.YtojbamejhlaahaaRulO
import Derived.Test.YtojbamejhlaahaaTwo
import Derived.Test.YtojbamejhlaahaaRefOne
namespace Go.Proofs.Ytojbamejhlaahaa
open Go.RowKit Go.Shelf
set_option linter.unusedVariables false

theorem rev_take (l : List Int) {k : Nat} (hk : k < l.length) : l.reverse.take (k + 1) = l.reverse.take k ++ [l[l.length - 1 - k]?.getD 0] := by
  have h : k < l.reverse.length := by simpa using hk
  rw [List.take_add_one, List.getElem?_eq_getElem h]
  simp [List.getElem_reverse, show l.length - 1 - k < l.length by omega]
set_option maxHeartbeats 1000000 in
theorem rback_c (v : Value) (l : List Int) (w : World) (h : Ints w v l) (hl : l.length ≤ 1000) : Calls Try.prog 91 #[v] w (ROInts 3 l.reverse w) := by
  have HI := Lib.hid h
  obtain ⟨av, cv, rfl, _, _, HL⟩ := h.open_
  clear h
  have hi0 : IntKind.i64.wrap ((l.length : Int) - 1) = (l.length : Int) - 1 := IntWalk.i64_in _ (by omega)
  have hfull : l.reverse.take l.length = l.reverse := by rw [List.take_of_length_le (by simp)]
  have HFULL := Lib.hid hfull; clear hfull
  go_enter Try.func91, Try.ntmps91
  go_wp2_with fail
  go_loopg [4, 3] l.length (fun m i v wr => ∃ (k : Nat) (z : Int), k ≤ l.length ∧ l.length ≤ k + m ∧ z = (l.length : Int) - 1 - k ∧ i = .int .i64 z ∧ Ext w wr ∧ OInts 3 wr w.heap.size v (l.reverse.take k))
  case atStart => exact ⟨0, _, by omega, by omega, by simp, rfl, Ext.refl _, OInts.nil _ _ _⟩
  case round =>
    obtain ⟨k, z, hk, hk2, hz, rfl, hB, hown⟩ := hrel
    have hsB := hB.size
    by_cases hlt : k < l.length
    · have hz1 : 0 ≤ z := by omega
      have hz2 : z < l.length := by omega
      have hzn : (l.length - 1 - k : Nat) = z := by omega
      obtain ⟨b, o, rfl, hc⟩ := HL.out (l.length - 1 - k) (by omega)
      replace hc := hB.keep hc
      have HT := Lib.hid (rev_take l hlt)
      have hw0 : IntKind.i64.wrap (z - 1) = z - 1 := IntWalk.i64_in _ (by omega)
      have htl : (l.reverse.take k).length ≤ k := by simp; omega
      generalize l[l.length - 1 - k]?.getD 0 = n at *
      obtain ⟨zn, rfl⟩ : ∃ zn : Nat, z = zn := ⟨z.toNat, by omega⟩
      have hzz : l.length - 1 - k = zn := by omega
      rw [hzz] at hc
      have HOWN := Lib.hid hown; clear hown
      generalize l.reverse.take k = L0 at *
      have HZ := Lib.hid hz; clear hz hzz hzn
      go_wp2_with (at_builtin; refine wpList_appendInt elInts rfl _ _ rfl rfl rfl HOWN.out rfl (by omega) (by omega) ?_; intro v' w' hown2 hb2)
      go_roundg (gk-1)
      case measure => omega
      case rel => exact ⟨k+1, (zn : Int) - 1, by omega, by omega, by have := HZ.out; omega, by go_num, hB.upto hb2 (Nat.le_refl _), by rw [HT.out]; exact hown2⟩
    · have hz1 : z < 0 := by omega
      have hkl : k = l.length := by omega
      subst hkl
      rw [HFULL.out] at hown
      go_wp2_with fail
      go_ret
      exact ⟨_, rfl, hown, hB⟩

def backL (l : List Int) : List Int := if validW l = 0 then l.reverse else []

set_option maxHeartbeats 1000000 in
theorem Back_c (v : Value) (l : List Int) (w : World) (h : Ints w v l) (hl : l.length ≤ 1000) : Calls Try.prog 46 #[v] w (RO2 (backL l) (validW l) w) := by
  have HI := Lib.hid h
  have HV := Lib.hid (ValidateWord_c v l w h)
  clear h
  unfold backL
  by_cases h0 : validW l = 0
  · rw [if_pos h0]
    rw [h0] at HV ⊢
    clear h0
    go_enter Try.func46, Try.ntmps46
    go_wp2_with fail
    refine HV.out.mono ?_; rintro e w1 ⟨rfl, hx1⟩
    go_wp2_with fail
    refine (back_c _ l w1 (HI.out.ext hx1) hl).mono ?_; rintro e w2 ⟨v2, rfl, ho2, hx2⟩
    have HO := Lib.hid ho2; clear ho2
    go_wp2_with fail
    go_ret2
    exact ⟨_, rfl, HO.out.low hx1.size, hx1.trans hx2⟩
  · rw [if_neg h0]
    have hk : (validW l != 0) = true := by simp [h0]
    generalize validW l = k at *
    clear h0
    go_enter Try.func46, Try.ntmps46
    go_wp2_with fail
    refine HV.out.mono ?_; rintro e w1 ⟨rfl, hx1⟩
    go_wp2_with fail
    go_ret2
    exact ⟨_, rfl, OInts.nil _ _ _, hx1⟩

set_option maxHeartbeats 1000000 in
theorem rBack_c (v : Value) (l : List Int) (w : World) (h : Ints w v l) (hl : l.length ≤ 1000) : Calls Try.prog 47 #[v] w (RO2 (backL l) (validW l) w) := by
  have HI := Lib.hid h
  have HV := Lib.hid (rValidateWord_c v l w h)
  clear h
  unfold backL
  by_cases h0 : validW l = 0
  · rw [if_pos h0]
    rw [h0] at HV ⊢
    clear h0
    go_enter Try.func47, Try.ntmps47
    go_wp2_with fail
    refine HV.out.mono ?_; rintro e w1 ⟨rfl, hx1⟩
    go_wp2_with fail
    refine (rback_c _ l w1 (HI.out.ext hx1) hl).mono ?_; rintro e w2 ⟨v2, rfl, ho2, hx2⟩
    have HO := Lib.hid ho2; clear ho2
    go_wp2_with fail
    go_ret2
    exact ⟨_, rfl, HO.out.low hx1.size, hx1.trans hx2⟩
  · rw [if_neg h0]
    have hk : (validW l != 0) = true := by simp [h0]
    generalize validW l = k at *
    clear h0
    go_enter Try.func47, Try.ntmps47
    go_wp2_with fail
    refine HV.out.mono ?_; rintro e w1 ⟨rfl, hx1⟩
    go_wp2_with fail
    go_ret2
    exact ⟨_, rfl, OInts.nil _ _ _, hx1⟩
theorem sameInts_same (va vb : Value) (a : List Int) (w : World) (ha : Ints w va a) (hb : Ints w vb a) : Calls Try.prog 22 #[va, vb] w (RQ true w) := by have := sameInts_c va vb a a w ha hb; rwa [sameIntsB_refl] at this

set_option maxHeartbeats 2000000 in
set_option maxRecDepth 100000 in
theorem Same_c (tv lv rv tu lu ru : Value) (x : Rul) (w : World) (hr : RulR w tv lv rv x) (hs : RulR w tu lu ru x) : Calls Try.prog 48 #[.agg #[.int .i64 x.f, tv, lv, rv], .agg #[.int .i64 x.f, tu, lu, ru]] w (RV (.bool true) w) := by
  obtain ⟨wA, hwA⟩ : ∃ wA, wA = (w.alloc (.cells #[.int .i64 x.f, tv, lv, rv] 24)).alloc (.cells #[.int .i64 x.f, tu, lu, ru] 24) := ⟨_, rfl⟩
  have hE0 : Ext w wA := by rw [hwA]; exact (Ext.alloc _ _).trans (Ext.alloc _ _)
  have k0 : ∀ W, Ext wA W → W.cell? ⟨w.heap.size, 0, none⟩ = some (.int .i64 x.f) := by rw [hwA]; exact kept_alloc2 w _ _ _ _ rfl
  have k1 : ∀ W, Ext wA W → W.cell? ⟨w.heap.size, 1, none⟩ = some tv := by rw [hwA]; exact kept_alloc2 w _ _ _ _ rfl
  have k2 : ∀ W, Ext wA W → W.cell? ⟨w.heap.size, 2, none⟩ = some lv := by rw [hwA]; exact kept_alloc2 w _ _ _ _ rfl
  have k3 : ∀ W, Ext wA W → W.cell? ⟨w.heap.size, 3, none⟩ = some rv := by rw [hwA]; exact kept_alloc2 w _ _ _ _ rfl
  have m0 : ∀ W, Ext wA W → W.cell? ⟨w.heap.size + 1, 0, none⟩ = some (.int .i64 x.f) := by rw [hwA]; exact kept_alloc2' w _ _ _ _ rfl
  have m1 : ∀ W, Ext wA W → W.cell? ⟨w.heap.size + 1, 1, none⟩ = some tu := by rw [hwA]; exact kept_alloc2' w _ _ _ _ rfl
  have m2 : ∀ W, Ext wA W → W.cell? ⟨w.heap.size + 1, 2, none⟩ = some lu := by rw [hwA]; exact kept_alloc2' w _ _ _ _ rfl
  have m3 : ∀ W, Ext wA W → W.cell? ⟨w.heap.size + 1, 3, none⟩ = some ru := by rw [hwA]; exact kept_alloc2' w _ _ _ _ rfl
  have H0 : Ext wA wA := Ext.refl _
  have HR := Lib.hid (hr.ext hE0)
  have HS := Lib.hid (hs.ext hE0)
  have HW := Lib.hid hwA; clear hwA hr hs
  go_enter Try.func48, Try.ntmps48
  go_wp2_with fail
  rw [← HW.out]
  refine (sameInts_same tv tu x.t wA (HR.out.t.ext (Ext.refl wA)) (HS.out.t.ext (Ext.refl wA))).mono ?_; rintro e w1 ⟨rfl, n1, hw1⟩
  have hx1 : Ext wA w1 := (Ext.refl wA).trans (by rw [hw1]; exact Ext.drewN _ _)
  clear hw1
  go_wp2_with fail
  refine (sameInts_same lv lu x.l w1 (HR.out.l.ext hx1) (HS.out.l.ext hx1)).mono ?_; rintro e w2 ⟨rfl, n2, hw2⟩
  have hx2 : Ext wA w2 := hx1.trans (by rw [hw2]; exact Ext.drewN _ _)
  clear hw2
  go_wp2_with fail
  refine (sameInts_same rv ru x.r w2 (HR.out.r.ext hx2) (HS.out.r.ext hx2)).mono ?_; rintro e w3 ⟨rfl, n3, hw3⟩
  have hx3 : Ext wA w3 := hx2.trans (by rw [hw3]; exact Ext.drewN _ _)
  clear hw3
  go_wp2_with fail
  go_ret
  exact RV.bool rfl (hE0.trans hx3)
end Go.Proofs.Ytojbamejhlaahaa

