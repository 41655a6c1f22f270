/- MachineSources: for every input the call returns true. No condition. -/
import Derived.Test.YtodhmkbkcjpnkaaMacS
import Derived.Test.YtodhmkbkcjpnkaaMacN
namespace Go.Proofs.Ytodhmkbkcjpnkaa
open Go.RowKit Go.Shelf
set_option linter.unusedVariables false

theorem sameWords_same2 (va vb : Value) (a : List (List Int)) (w : World) (ha : Rows w va a) (hb : Rows w vb a) : Calls Try.prog 26 #[va, vb] w (RQ true w) := by
  have := sameWords_c va vb a a w ha hb
  rwa [show rowsB a a = true by rw [rowsB_iff]; simp] at this

set_option maxHeartbeats 4000000 in
set_option maxRecDepth 100000 in
theorem machineSources_c (av ev : Value) (m : Mac) (vv : Value) (v : List Int) (w : World) (h : MacR w av ev m) (hv : Ints w vv v) :
    Calls Try.prog 6 #[.agg #[.int .i64 m.s, av, ev], vv] w (RV (.bool true) w) := by
  obtain ⟨wA, hwA⟩ : ∃ wA, wA = w.alloc (.cells #[.int .i64 m.s, av, ev] 25) := ⟨_, rfl⟩
  have hE0 : Ext w wA := by rw [hwA]; exact Ext.alloc _ _
  have k0 : ∀ W, Ext wA W → W.cell? ⟨w.heap.size, 0, none⟩ = some (.int .i64 m.s) := by rw [hwA]; exact kept_alloc w _ _ rfl
  have k1 : ∀ W, Ext wA W → W.cell? ⟨w.heap.size, 1, none⟩ = some av := by rw [hwA]; exact kept_alloc w _ _ rfl
  have k2 : ∀ W, Ext wA W → W.cell? ⟨w.heap.size, 2, none⟩ = some ev := by rw [hwA]; exact kept_alloc w _ _ rfl
  have H0 : Ext wA wA := Ext.refl _
  have HR := Lib.hid (h.ext hE0)
  obtain ⟨aa, ca, rfl, hla, hma, HA⟩ := (h.ext hE0).a.open_
  obtain ⟨ae, ce, rfl, hle, hme, HE⟩ := (h.ext hE0).e.open_
  have HI_v := Lib.hid (hv.ext hE0)
  obtain ⟨a_v, c_v, rfl, _, _, HU_v⟩ := (hv.ext hE0).open_
  have hxL := Ext.alloc wA (.cells #[.slice a_v v.length c_v] 23)
  have HLG := Lib.hid (by have := Long_c _ _ _ m [v] _ (HR.out.ext hxL) (rows_new wA [.slice a_v v.length c_v] [v] (by exact (AllInts.cons HI_v.out (AllInts.nil _))) (by simp)); rw [show wA.heap.size = w.heap.size + 1 by rw [hwA]; simp] at this; exact this)
  have HW := Lib.hid hwA; clear hwA h hv
  have HLB := Lib.hid (longM_bd (m := m) (ls := [v]))
  generalize longM m [v] = b1 at *
  cases b1
  · have HLB2 := HLB.out rfl
    clear HLB
    go_enter Try.func6, Try.ntmps6
    go_wp2_with fail
    rw [← HW.out]
    refine HLG.out.mono ?_; rintro e w2 ⟨rfl, hx2⟩
    replace hx2 := hxL.trans hx2
    clear HLG
    go_wp2_with fail
    refine (Sources_c _ _ _ m v w2 (HR.out.ext hx2) (HI_v.out.ext hx2) (by omega) (by omega)).mono ?_; rintro e w3 ⟨v3, rfl, hv3, hx3⟩
    have hv3' : Rows w3 v3 _ := hv3
    obtain ⟨a3, c3, rfl, hl3, hm3, H3⟩ := Rows.open_ hv3'
    have HV3 := Lib.hid hv3'; clear hv3 hv3'
    replace hx3 := Lib.hid hx3
    have hX3 := hx2.trans hx3.out
    go_wp2_with fail
    refine (rSources_c _ _ _ m v w3 (HR.out.ext hX3) (HI_v.out.ext hX3) (by omega) (by omega)).mono ?_; rintro e w4 ⟨v4, rfl, hv4, hx4⟩
    have HV4 : Hid (Rows w4 v4 _) := Lib.hid hv4; clear hv4
    have hX4 := hX3.trans hx4
    have HX4 := Lib.hid hx4; clear hx4
    have HSW := Lib.hid (sameWords_same2 _ v4 _ w4 (Rows.ext HV3.out HX4.out) HV4.out)
    have HSI := Lib.hid (fun x hx => source_image (m := m) (v := v) (x := x) hx)
    generalize imagesL (turnM m) v = L at *
    generalize imagesK (turnM m) v = ik at *
    have hik : (ik != ik) = false := by simp
    go_wp2_with fail
    refine HSW.out.mono ?_; rintro e w7 ⟨rfl, n7, hw7⟩
    have hX7 : Ext w3 w7 := HX4.out.trans (by rw [hw7]; exact Ext.drewN _ _)
    clear hw7 HSW
    go_wp2_with fail
    clear hik
    go_loopg [9] L.length (fun z i wr => ∃ k : Nat, k ≤ L.length ∧ L.length ≤ k + z ∧ i = .int .i64 k ∧ Ext w3 wr)
    case atStart => exact ⟨0, by omega, by omega, rfl, hX7⟩
    case round =>
      clear hX7
      obtain ⟨k, hk, hkz, rfl, hX3r⟩ := hrel
      have hXr : Ext wA wr := hX3.trans hX3r
      by_cases hlt : k < L.length
      · by_cases h20 : k < 20
        · obtain ⟨b, o, rfl, u8, hc, hi⟩ := H3.out k hlt
          replace hc := hX3r.keep hc
          have hiW := Lib.hid (hi.ext hX3r)
          obtain ⟨a7, c7, rfl, _⟩ := hi.open_
          have hmem : L[k]?.getD [] ∈ L := by rw [List.getElem?_eq_getElem hlt]; exact List.getElem_mem hlt
          have HOR := Lib.hid (HSI.out _ hmem)
          clear hi hmem
          generalize hy : L[k]?.getD [] = y at *
          clear hy
          have HIMG := Lib.hid (fun W (hW : Ext wr W) => Images_c _ _ _ m y W (HR.out.ext (hXr.trans hW)) (hiW.out.ext hW))
          rcases HOR.out with ⟨h0, hv⟩ | h3
          · rw [h0] at HIMG
            have HMV := Lib.hid hv
            clear h0 hv
            generalize imagesL m y = LM at *
            go_wp2_with fail
            refine wp_region_peek (Ext wr) (fun _ => True) [] [.look 0, .look 1, .look 2, .look 3, .look 4, .go 5, .look 6, .look 7, .look 8, .look 9, .look 10] (by kernel_rfl) (by kernel_rfl) (by intro c a d v w h; cases d <;> exact h) ?_
            have hd : Ext wr { wr with drawn := wr.drawn + 1 } := drawn_ext wr
            have hs : ∀ s : InC (Ext wr), Ext wA s.w := fun s => hXr.trans s.h
            have q0 := fun s : InC (Ext wr) => s.h.keep hc
            generalize { wr with drawn := wr.drawn + 1 } = V1 at *
            iterate 5 (refine wpPeek_look rfl ‹_› (fun K hK => ?_); go_simp; first | (refine hK _ ?_; clear hK K) | (refine ⟨_, fun _ => rfl, hK _ ?_⟩; clear hK K))
            refine wpPeek_go rfl rfl (fun K hK => ?_)
            clear hs q0
            go_wp2_with fail
            refine (HIMG.out V1 hd).mono ?_; rintro e w8 ⟨v8, rfl, hv8, hx8⟩
            have hv8' : Rows w8 v8 _ := hv8
            obtain ⟨a8, c8, rfl, _⟩ := Rows.open_ hv8'
            have hX8 := hXr.trans (hd.trans hx8)
            have HV8 := Lib.hid hv8'; clear hv8 hv8'
            go_wp2_with fail
            refine ⟨KeepE.of (fun h => h.trans hx8) (fun _ => trivial), ?_⟩
            replace hd := hd.trans hx8
            iterate 5 (refine wpPeek_look rfl ‹_› (fun K hK => ?_); go_simp; first | (refine hK _ ?_; clear hK K) | (refine ⟨_, fun _ => rfl, hK _ ?_⟩; clear hK K))
            refine wpPeek_nil ?_
            have hX38 := hd
            clear hd
            have hcon : LM.contains v = true := List.contains_iff_mem.2 HMV.out
            have HHW := Lib.hid (hasWord_c _ _ LM v w8 HV8.out (HI_v.out.ext hX8))
            rw [hcon] at HHW
            clear hcon
            go_wp2_with fail
            refine HHW.out.mono ?_; rintro e w9 ⟨rfl, hx9⟩
            have hX9 : Ext w3 w9 := (hX3r.trans hX38).trans hx9
            go_wp2_with fail
            go_roundg (gk-1)
            case measure => omega
            case rel => exact ⟨k+1, by omega, by omega, by go_num, hX9⟩
          · rw [h3] at HIMG
            clear h3
            generalize imagesL m y = LM at *
            go_wp2_with fail
            refine wp_region_peek (Ext wr) (fun _ => True) [] [.look 0, .look 1, .look 2, .look 3, .look 4, .go 5, .look 6, .look 7, .look 8, .look 9, .look 10] (by kernel_rfl) (by kernel_rfl) (by intro c a d v w h; cases d <;> exact h) ?_
            have hd : Ext wr { wr with drawn := wr.drawn + 1 } := drawn_ext wr
            have hs : ∀ s : InC (Ext wr), Ext wA s.w := fun s => hXr.trans s.h
            have q0 := fun s : InC (Ext wr) => s.h.keep hc
            generalize { wr with drawn := wr.drawn + 1 } = V1 at *
            iterate 5 (refine wpPeek_look rfl ‹_› (fun K hK => ?_); go_simp; first | (refine hK _ ?_; clear hK K) | (refine ⟨_, fun _ => rfl, hK _ ?_⟩; clear hK K))
            refine wpPeek_go rfl rfl (fun K hK => ?_)
            clear hs q0
            go_wp2_with fail
            refine (HIMG.out V1 hd).mono ?_; rintro e w8 ⟨v8, rfl, hv8, hx8⟩
            have hv8' : Rows w8 v8 _ := hv8
            obtain ⟨a8, c8, rfl, _⟩ := Rows.open_ hv8'
            have hX8 := hXr.trans (hd.trans hx8)
            have HV8 := Lib.hid hv8'; clear hv8 hv8'
            go_wp2_with fail
            refine ⟨KeepE.of (fun h => h.trans hx8) (fun _ => trivial), ?_⟩
            replace hd := hd.trans hx8
            iterate 5 (refine wpPeek_look rfl ‹_› (fun K hK => ?_); go_simp; first | (refine hK _ ?_; clear hK K) | (refine ⟨_, fun _ => rfl, hK _ ?_⟩; clear hK K))
            refine wpPeek_nil ?_
            have hX38 := hd
            clear hd
            go_wp2_with fail
            go_roundg (gk-1)
            case measure => omega
            case rel => exact ⟨k+1, by omega, by omega, by go_num, hX3r.trans hX38⟩
        · go_wp2_with fail
          refine (sane_c _).mono ?_; rintro e wK ⟨rfl, hxK⟩
          go_wp2_with fail
          go_ret
          exact RV.bool rfl (hE0.trans (hXr.trans hxK))
      · go_wp2_with fail
        refine (sane_c _).mono ?_; rintro e wK ⟨rfl, hxK⟩
        go_wp2_with fail
        go_ret
        exact RV.bool rfl (hE0.trans (hXr.trans hxK))
  · go_enter Try.func6, Try.ntmps6
    go_wp2_with fail
    rw [← HW.out]
    refine HLG.out.mono ?_; rintro e w2 ⟨rfl, hx2⟩
    replace hx2 := hxL.trans hx2
    go_wp2_with fail
    refine (sane_c _).mono ?_; rintro e wK ⟨rfl, hxK⟩
    go_wp2_with fail
    go_ret
    exact RV.bool rfl (hE0.trans (hx2.trans hxK))
end Go.Proofs.Ytodhmkbkcjpnkaa
