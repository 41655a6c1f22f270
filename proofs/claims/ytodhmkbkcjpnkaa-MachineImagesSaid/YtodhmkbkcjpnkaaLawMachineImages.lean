/- MachineImages: for every input the call returns true. No condition. -/
import Derived.Test.YtodhmkbkcjpnkaaMacS
import Derived.Test.YtodhmkbkcjpnkaaMacG
namespace Go.Proofs.Ytodhmkbkcjpnkaa
open Go.RowKit Go.Shelf
set_option linter.unusedVariables false

theorem accepts_images {m : Mac} {u : List Int} (h : imagesK m u = 0) : acceptsB m u = decide (0 < (imagesL m u).length) := by
  unfold imagesK at h
  split at h
  · rename_i h0
    obtain ⟨hm, _, _⟩ := checkK_ok h0
    rw [acceptsB, if_pos h0, imagesL, if_pos h0]
    cases ho : imagesO m.s.toNat m u with
    | none => rw [ho] at h; simp at h
    | some L => rw [images_ne hm.in_ hm.outIn ho]; rfl
  · rename_i h0; exact absurd h h0
theorem sameWords_same (va vb : Value) (a : List (List Int)) (w : World) (ha : Rows w va a) (hb : Rows w vb a) : Calls Try.prog 26 #[va, vb] w (RQ true w) := by
  have := sameWords_c va vb a a w ha hb
  rwa [show rowsB a a = true by rw [rowsB_iff]; simp] at this

set_option maxHeartbeats 4000000 in
set_option maxRecDepth 100000 in
theorem machineImages_c (av ev : Value) (m : Mac) (uv : Value) (u : List Int) (w : World) (h : MacR w av ev m) (hu : Ints w uv u) :
    Calls Try.prog 4 #[.agg #[.int .i64 m.s, av, ev], uv] w (RV (.bool true) w) := by
  obtain ⟨wA, hwA⟩ : ∃ wA, wA = w.alloc (.cells #[.int .i64 m.s, av, ev] 25) := ⟨_, rfl⟩
  have hE0 : Ext w wA := by rw [hwA]; exact Ext.alloc _ _
  have k0 : ∀ W, Ext wA W → W.cell? ⟨w.heap.size, 0, none⟩ = some (.int .i64 m.s) := by rw [hwA]; exact kept_alloc w _ _ rfl
  have k1 : ∀ W, Ext wA W → W.cell? ⟨w.heap.size, 1, none⟩ = some av := by rw [hwA]; exact kept_alloc w _ _ rfl
  have k2 : ∀ W, Ext wA W → W.cell? ⟨w.heap.size, 2, none⟩ = some ev := by rw [hwA]; exact kept_alloc w _ _ rfl
  have H0 : Ext wA wA := Ext.refl _
  have HR := Lib.hid (h.ext hE0)
  obtain ⟨aa, ca, rfl, hla, hma, HA⟩ := (h.ext hE0).a.open_
  obtain ⟨ae, ce, rfl, hle, hme, HE⟩ := (h.ext hE0).e.open_
  have HI_u := Lib.hid (hu.ext hE0)
  obtain ⟨a_u, c_u, rfl, _, _, HU_u⟩ := (hu.ext hE0).open_
  have hxL := Ext.alloc wA (.cells #[.slice a_u u.length c_u] 23)
  have HLG := Lib.hid (by have := Long_c _ _ _ m [u] _ (HR.out.ext hxL) (rows_new wA [.slice a_u u.length c_u] [u] (by exact (AllInts.cons HI_u.out (AllInts.nil _))) (by simp)); rw [show wA.heap.size = w.heap.size + 1 by rw [hwA]; simp] at this; exact this)
  have HW := Lib.hid hwA; clear hwA h hu
  have HLB := Lib.hid (longM_bd (m := m) (ls := [u]))
  generalize longM m [u] = b1 at *
  cases b1
  · have HLB2 := HLB.out rfl
    clear HLB
    go_enter Try.func4, Try.ntmps4
    go_wp2_with fail
    rw [← HW.out]
    refine HLG.out.mono ?_; rintro e w2 ⟨rfl, hx2⟩
    replace hx2 := hxL.trans hx2
    clear HLG
    go_wp2_with fail
    refine (Images_c _ _ _ m u w2 (HR.out.ext hx2) (HI_u.out.ext hx2)).mono ?_; rintro e w3 ⟨v3, rfl, hv3, hx3⟩
    have hv3' := hv3
    obtain ⟨a3, c3, rfl, _⟩ := Rows.open_ hv3
    have HV3 := Lib.hid hv3'; clear hv3 hv3'
    replace hx3 := Lib.hid hx3
    have hX3 := hx2.trans hx3.out
    go_wp2_with fail
    refine (rImages_c _ _ _ m u w3 (HR.out.ext hX3) (HI_u.out.ext hX3)).mono ?_; rintro e w4 ⟨v4, rfl, hv4, hx4⟩
    have HV4 := Lib.hid hv4; clear hv4
    have hX4 := hX3.trans hx4
    go_wp2_with fail
    refine (Accepts_c _ _ _ m u w4 (HR.out.ext hX4) (HI_u.out.ext hX4)).mono ?_; rintro e w5 ⟨rfl, hx5⟩
    have hX5 := hX4.trans hx5
    go_wp2_with fail
    refine (rAccepts_c _ _ _ m u w5 (HR.out.ext hX5) (HI_u.out.ext hX5)).mono ?_; rintro e w6 ⟨rfl, hx6⟩
    have hX6 := hX5.trans hx6
    have HSW := Lib.hid (sameWords_same _ v4 _ w6 (Rows.ext HV3.out (hx4.trans (hx5.trans hx6))) (Rows.ext HV4.out (hx5.trans hx6)))
    go_wp2_with fail
    refine HSW.out.mono ?_; rintro e w7 ⟨rfl, n7, hw7⟩
    have hX7 : Ext wA w7 := hX6.trans (by rw [hw7]; exact Ext.drewN _ _)
    clear hw7 HSW
    have h1 : (checkK m [u] == checkK m [u]) = true := by simp
    have HX := Lib.hid (fun h => accepts_images (m := m) (u := u) h)
    generalize checkK m [u] = ck at *
    generalize hik : imagesK m u = ik at *
    have HIK := Lib.hid hik; clear hik
    have h2 : (ik == ik) = true := by simp
    generalize imagesL m u = L at *
    by_cases h0 : ik = 0
    · subst h0
      have hxx := HX.out rfl
      clear HX
      rw [hxx]
      clear hxx
      by_cases hlen : 0 < L.length
      · have hlen2 : (0 : Int) < L.length := by omega
        have hd : decide (0 < L.length) = true := decide_eq_true hlen
        go_wp2_with fail
        refine (sane_c _).mono ?_; rintro e wK ⟨rfl, hxK⟩
        go_wp2_with fail
        go_ret
        exact RV.bool rfl (hE0.trans (hX7.trans hxK))
      · have hlen2 : ¬ (0 : Int) < L.length := by omega
        have hd : decide (0 < L.length) = false := decide_eq_false hlen
        go_wp2_with fail
        refine (sane_c _).mono ?_; rintro e wK ⟨rfl, hxK⟩
        go_wp2_with fail
        go_ret
        exact RV.bool rfl (hE0.trans (hX7.trans hxK))
    · have hk : (ik != 0) = true := by simp [h0]
      clear h0 HX
      go_wp2_with fail
      refine (sane_c _).mono ?_; rintro e wK ⟨rfl, hxK⟩
      go_wp2_with fail
      go_ret
      exact RV.bool rfl (hE0.trans (hX7.trans hxK))
  · go_enter Try.func4, Try.ntmps4
    go_wp2_with fail
    rw [← HW.out]
    refine HLG.out.mono ?_; rintro e w2 ⟨rfl, hx2⟩
    replace hx2 := hxL.trans hx2
    go_wp2_with fail
    refine (sane_c _).mono ?_; rintro e wK ⟨rfl, hxK⟩
    go_wp2_with fail
    go_ret
    exact RV.bool rfl (hE0.trans (hx2.trans hxK))
end Go.Proofs.Ytodhmkbkcjpnkaa
