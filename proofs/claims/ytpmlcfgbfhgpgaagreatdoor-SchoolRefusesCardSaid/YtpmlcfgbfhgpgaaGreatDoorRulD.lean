/- The places of a rule in a word, listed; both packages. -/
import Derived.Test.YtpmlcfgbfhgpgaaGreatDoorRulC
namespace Go.Proofs.YtpmlcfgbfhgpgaaGreatDoor
open Go.RowKit Go.Shelf
set_option linter.unusedVariables false
theorem RInts.mk {l : List Int} {w w' : World} {v : Value} (h : Ints w' v l) (hx : Ext w w') : RInts l w (.returned v) w' := ⟨v, rfl, h, hx⟩
set_option maxHeartbeats 2000000 in
set_option maxRecDepth 100000 in
theorem places_c (tv lv rv wv : Value) (x : Rul) (l : List Int) (w : World) (h : RulR w tv lv rv x) (hw : Ints w wv l) (hsn : sndB l = true) (hl : l.length ≤ 1000) :
  Calls Tryz.prog 106 #[.agg #[.int .i64 x.f, tv, lv, rv], wv] w (ROInts 3 (placesL x l) w) := by
 obtain ⟨wA, hwA⟩ : ∃ wA, wA = w.alloc (.cells #[.int .i64 x.f, tv, lv, rv] 70) := ⟨_, rfl⟩
 have hE0 : Ext w wA := by rw [hwA]; exact Ext.alloc _ _
 have k0 : ∀ W, Ext wA W → W.cell? ⟨w.heap.size, 0, none⟩ = some (.int .i64 x.f) := by rw [hwA]; exact kept_alloc w _ _ rfl
 have k1 : ∀ W, Ext wA W → W.cell? ⟨w.heap.size, 1, none⟩ = some tv := by rw [hwA]; exact kept_alloc w _ _ rfl
 have k2 : ∀ W, Ext wA W → W.cell? ⟨w.heap.size, 2, none⟩ = some lv := by rw [hwA]; exact kept_alloc w _ _ rfl
 have k3 : ∀ W, Ext wA W → W.cell? ⟨w.heap.size, 3, none⟩ = some rv := by rw [hwA]; exact kept_alloc w _ _ rfl
 have H0 : Ext wA wA := Ext.refl _
 obtain ⟨a, c, rfl, _, _, H⟩ := hw.open_
 have HI := Lib.hid (hw.ext hE0)
 have HR := Lib.hid (h.ext hE0)
 have HS := Lib.hid hsn
 have HW := Lib.hid hwA; clear hwA hsn
 have hs : ∀ s : Later wA, Ext wA s.w := fun s => s.ext
 by_cases hfn : x.f = -1
 ·have HF := Lib.hid hfn
  have hf0 : (x.f == -1) = true := by simp [hfn]
  clear hfn
  have hlg : lng x = 0 := by simp [lng, HF.out]
  have HPL := Lib.hid (show placesL x l = sel (l.length + 1) (fun i => placeAt x l i) by rw [placesL, hlg]; rfl)
  have HLN := Lib.hid (fun (s : Later wA) => long_c tv lv rv x s.w)
  rw [hlg] at HLN
  have HLG := Lib.hid hlg; clear hlg
  have HO1 := Lib.hid (fun (s : Later wA) => of_c lv x.l s.w (HR.out.l.ext s.ext))
  have HO2 := Lib.hid (fun (s : Later wA) => of_c rv x.r s.w (HR.out.r.ext s.ext))
  have HLN0 := Lib.hid (fun W (hW : Ext wA W) => show Calls Tryz.prog 158 #[.agg #[.int .i64 x.f, tv, lv, rv]] W (RV (.int .i64 0) W) from HLN.out ⟨W, hW⟩)
  go_enter Tryz.func106, Tryz.ntmps106
  go_wp2_with fail
  rw [← HW.out]
  refine wp_region_later (by kernel_rfl) (by kernel_rfl) ?_
  repeat (go_big_quiet_step (first | (go_at_call 156; first | with_reducible exact Later.call (HO1.out _) | with_reducible exact Later.call (HO2.out _))))
  refine wpQuiet_nil ?_
  intro w5 hw'
  obtain ⟨⟨_, hx5⟩, rfl⟩ := hw'
  clear hs
  go_wp2_with fail
  refine (HLN0.out w5 hx5).mono ?_; rintro e w6 ⟨rfl, hx6⟩
  have hx6 := hx5.trans hx6
  clear hx5
  go_wp2_with fail
  go_loopg [23, 7] (l.length + 1) (fun m i v wr => ∃ k : Nat, k ≤ l.length + 1 ∧ l.length + 1 ≤ k + m ∧ i = .int .i64 k ∧ Ext w6 wr ∧ OInts 3 wr w6.heap.size v (sel k (fun i => placeAt x l i)))
  case atStart => exact ⟨0, by omega, by omega, rfl, Ext.refl _, OInts.nil _ _ _⟩
  case round =>
   obtain ⟨k, hk, hk2, rfl, hB, hown⟩ := hrel
   by_cases hlt : k < l.length + 1
   ·have hXr := hx6.trans hB
    have hs : ∀ s : Later wr, Ext wA s.w := fun s => hXr.trans s.ext
    have hw0 : IntKind.i64.wrap (k : Int) = (k : Int) := IntWalk.i64_in _ (by omega)
    have hw1 : IntKind.i64.wrap ((k : Int) - 1) = (k : Int) - 1 := IntWalk.i64_in _ (by omega)
    have hw2 : IntKind.i64.wrap ((k : Int) + 1) = (k : Int) + 1 := IntWalk.i64_in _ (by omega)
    have L1 := Lib.hid (fun s : Later wr => HLN.out ⟨s.w, hXr.trans s.ext⟩)
    have A1 := Lib.hid (fun s : Later wr => at_c _ l ((k : Int) - 1) s.w (HI.out.ext (hXr.trans s.ext)) (by omega) (by omega) (by omega))
    have A2 := Lib.hid (fun s : Later wr => at_c _ l ((k : Int)) s.w (HI.out.ext (hXr.trans s.ext)) (by omega) (by omega) (by omega))
    obtain ⟨y1a, y1b⟩ := atI_in HS.out ((k : Int) - 1)
    obtain ⟨y2a, y2b⟩ := atI_in HS.out ((k : Int))
    have HP : Hid (placeAt x l k = (true && (mayB x.l (atI l ((k : Int) - 1)) && mayB x.r (atI l ((k : Int)))))) := Lib.hid (by rw [placeAt, HLG.out, HF.out]; simp)
    have HSY := Lib.hid (sel_yes (k := k) (f := fun i => placeAt x l i))
    have HSN := Lib.hid (sel_no (k := k) (f := fun i => placeAt x l i))
    have hsl := sel_le k (fun i => placeAt x l i)
    have HOWN := Lib.hid hown; clear hown
    generalize sel k (fun i => placeAt x l i) = L at *
    have M1 := Lib.hid (fun s : Later wr => may_c x.l (atI l ((k : Int) - 1)) s.w y1a y1b)
    have M2 := Lib.hid (fun s : Later wr => may_c x.r (atI l ((k : Int))) s.w y2a y2b)
    generalize atI l ((k : Int) - 1) = y1 at *
    generalize atI l ((k : Int)) = y2 at *
    generalize hm1 : mayB x.l y1 = m1 at *
    generalize hm2 : mayB x.r y2 = m2 at *
    clear hm1 hm2 y1a y1b y2a y2b
    cases m1
    ·have HN1 := Lib.hid (HSN.out (by rw [HP.out]; rfl))
     go_wp2_with fail
     refine wp_region_later (by kernel_rfl) (by kernel_rfl) ?_
     repeat (go_big_quiet_step (first | (go_at_call 158; first | with_reducible exact Later.call (L1.out _)) | (go_at_call 159; first | with_reducible exact Later.call (A1.out _) | with_reducible exact Later.call (A2.out _)) | (go_at_call 157; first | with_reducible exact Later.call (M1.out _) | with_reducible exact Later.call (M2.out _))))
     refine wpQuiet_nil ?_
     intro w5 hw'
     obtain ⟨⟨_, hx5⟩, rfl⟩ := hw'
     clear hs hw0 hw1 hw2
     go_wp2_with fail
     go_roundg (gk-1)
     case measure => omega
     case rel => exact ⟨k+1, by omega, by omega, by go_num, hB.trans hx5, by rw [HN1.out]; exact HOWN.out.ext hx5⟩
    ·cases m2
     ·have HN1 := Lib.hid (HSN.out (by rw [HP.out]; rfl))
      go_wp2_with fail
      refine wp_region_later (by kernel_rfl) (by kernel_rfl) ?_
      repeat (go_big_quiet_step (first | (go_at_call 158; first | with_reducible exact Later.call (L1.out _)) | (go_at_call 159; first | with_reducible exact Later.call (A1.out _) | with_reducible exact Later.call (A2.out _)) | (go_at_call 157; first | with_reducible exact Later.call (M1.out _) | with_reducible exact Later.call (M2.out _))))
      refine wpQuiet_nil ?_
      intro w5 hw'
      obtain ⟨⟨_, hx5⟩, rfl⟩ := hw'
      clear hs hw0 hw1 hw2
      go_wp2_with fail
      go_roundg (gk-1)
      case measure => omega
      case rel => exact ⟨k+1, by omega, by omega, by go_num, hB.trans hx5, by rw [HN1.out]; exact HOWN.out.ext hx5⟩
     ·have HY1 := Lib.hid (HSY.out (by rw [HP.out]; rfl))
      go_wp2_with fail
      refine wp_region_later (by kernel_rfl) (by kernel_rfl) ?_
      repeat (go_big_quiet_step (first | (go_at_call 158; first | with_reducible exact Later.call (L1.out _)) | (go_at_call 159; first | with_reducible exact Later.call (A1.out _) | with_reducible exact Later.call (A2.out _)) | (go_at_call 157; first | with_reducible exact Later.call (M1.out _) | with_reducible exact Later.call (M2.out _))))
      refine wpQuiet_nil ?_
      intro w5 hw'
      obtain ⟨⟨_, hx5⟩, rfl⟩ := hw'
      clear hs hw0 hw1 hw2
      have hB5 := hB.trans hx5
      have hs5 := hB5.size
      go_wp2_with (at_builtin; refine wpList_appendInt elInts rfl _ _ rfl rfl rfl (HOWN.out.ext hx5) rfl (by omega) (by omega) ?_; intro v' w' hown2 hb2)
      go_roundg (gk-1)
      case measure => omega
      case rel => exact ⟨k+1, by omega, by omega, by go_num, hB5.upto hb2 (Nat.le_refl _), by rw [HY1.out]; exact hown2⟩
   ·have hkk := Lib.hid (show k = l.length + 1 by omega)
    go_wp2_with fail
    go_ret
    exact ⟨_, rfl, OInts.low (by rw [HPL.out, ← hkk.out]; exact hown) (by have := hE0.size; have := hx6.size; omega), hE0.trans (hx6.trans hB)⟩
 ·have HF := Lib.hid hfn
  have hf0 : (x.f == -1) = false := by simp [hfn]
  have HFB := Lib.hid hf0
  clear hfn
  have hlg : lng x = 1 := by simp [lng, HF.out]
  have HPL := Lib.hid (show placesL x l = sel (l.length) (fun i => placeAt x l i) by rw [placesL, hlg]; rfl)
  have HLN := Lib.hid (fun (s : Later wA) => long_c tv lv rv x s.w)
  rw [hlg] at HLN
  have HLG := Lib.hid hlg; clear hlg
  have HO1 := Lib.hid (fun (s : Later wA) => of_c lv x.l s.w (HR.out.l.ext s.ext))
  have HO2 := Lib.hid (fun (s : Later wA) => of_c rv x.r s.w (HR.out.r.ext s.ext))
  have HLN0 := Lib.hid (fun W (hW : Ext wA W) => show Calls Tryz.prog 158 #[.agg #[.int .i64 x.f, tv, lv, rv]] W (RV (.int .i64 1) W) from HLN.out ⟨W, hW⟩)
  go_enter Tryz.func106, Tryz.ntmps106
  go_wp2_with fail
  rw [← HW.out]
  refine wp_region_later (by kernel_rfl) (by kernel_rfl) ?_
  repeat (go_big_quiet_step (first | (go_at_call 156; first | with_reducible exact Later.call (HO1.out _) | with_reducible exact Later.call (HO2.out _))))
  refine wpQuiet_nil ?_
  intro w5 hw'
  obtain ⟨⟨_, hx5⟩, rfl⟩ := hw'
  clear hs
  go_wp2_with fail
  refine (HLN0.out w5 hx5).mono ?_; rintro e w6 ⟨rfl, hx6⟩
  have hx6 := hx5.trans hx6
  clear hx5
  go_wp2_with fail
  go_loopg [23, 7] (l.length) (fun m i v wr => ∃ k : Nat, k ≤ l.length ∧ l.length ≤ k + m ∧ i = .int .i64 k ∧ Ext w6 wr ∧ OInts 3 wr w6.heap.size v (sel k (fun i => placeAt x l i)))
  case atStart => exact ⟨0, by omega, by omega, rfl, Ext.refl _, OInts.nil _ _ _⟩
  case round =>
   obtain ⟨k, hk, hk2, rfl, hB, hown⟩ := hrel
   by_cases hlt : k < l.length
   ·have hXr := hx6.trans hB
    have hs : ∀ s : Later wr, Ext wA s.w := fun s => hXr.trans s.ext
    have hw0 : IntKind.i64.wrap (k : Int) = (k : Int) := IntWalk.i64_in _ (by omega)
    have hw1 : IntKind.i64.wrap ((k : Int) - 1) = (k : Int) - 1 := IntWalk.i64_in _ (by omega)
    have hw2 : IntKind.i64.wrap ((k : Int) + 1) = (k : Int) + 1 := IntWalk.i64_in _ (by omega)
    have L1 := Lib.hid (fun s : Later wr => HLN.out ⟨s.w, hXr.trans s.ext⟩)
    have A1 := Lib.hid (fun s : Later wr => at_c _ l ((k : Int) - 1) s.w (HI.out.ext (hXr.trans s.ext)) (by omega) (by omega) (by omega))
    have A2 := Lib.hid (fun s : Later wr => at_c _ l ((k : Int) + 1) s.w (HI.out.ext (hXr.trans s.ext)) (by omega) (by omega) (by omega))
    obtain ⟨y1a, y1b⟩ := atI_in HS.out ((k : Int) - 1)
    obtain ⟨y2a, y2b⟩ := atI_in HS.out ((k : Int) + 1)
    have HP : Hid (placeAt x l k = ((l[k]?.getD 0 == x.f) && (mayB x.l (atI l ((k : Int) - 1)) && mayB x.r (atI l ((k : Int) + 1))))) := Lib.hid (by rw [placeAt, HLG.out, HFB.out, atI_nat (by omega)]; simp)
    have HSY := Lib.hid (sel_yes (k := k) (f := fun i => placeAt x l i))
    have HSN := Lib.hid (sel_no (k := k) (f := fun i => placeAt x l i))
    have hsl := sel_le k (fun i => placeAt x l i)
    have HOWN := Lib.hid hown; clear hown
    generalize sel k (fun i => placeAt x l i) = L at *
    have M1 := Lib.hid (fun s : Later wr => may_c x.l (atI l ((k : Int) - 1)) s.w y1a y1b)
    have M2 := Lib.hid (fun s : Later wr => may_c x.r (atI l ((k : Int) + 1)) s.w y2a y2b)
    generalize atI l ((k : Int) - 1) = y1 at *
    generalize atI l ((k : Int) + 1) = y2 at *
    generalize hm1 : mayB x.l y1 = m1 at *
    generalize hm2 : mayB x.r y2 = m2 at *
    clear hm1 hm2 y1a y1b y2a y2b
    obtain ⟨b, o, rfl, hc0⟩ := H.out k (by omega)
    have hci := (hE0.trans hXr).keep hc0
    have q0 := fun s : Later wr => s.ext.keep hci
    generalize l[k]?.getD 0 = y at *
    by_cases hyf : y = x.f
    ·have hyd : (y == x.f) = true := by simp [hyf]
     have HYF := Lib.hid hyd
     clear hyf
     cases m1
     ·have HN1 := Lib.hid (HSN.out (by rw [HP.out, HYF.out]; rfl))
      go_wp2_with fail
      refine wp_region_later (by kernel_rfl) (by kernel_rfl) ?_
      repeat (go_big_quiet_step (first | (go_at_call 158; first | with_reducible exact Later.call (L1.out _)) | (go_at_call 159; first | with_reducible exact Later.call (A1.out _) | with_reducible exact Later.call (A2.out _)) | (go_at_call 157; first | with_reducible exact Later.call (M1.out _) | with_reducible exact Later.call (M2.out _))))
      refine wpQuiet_nil ?_
      intro w5 hw'
      obtain ⟨⟨_, hx5⟩, rfl⟩ := hw'
      clear hs hw0 hw1 hw2 q0
      go_wp2_with fail
      go_roundg (gk-1)
      case measure => omega
      case rel => exact ⟨k+1, by omega, by omega, by go_num, hB.trans hx5, by rw [HN1.out]; exact HOWN.out.ext hx5⟩
     ·cases m2
      ·have HN1 := Lib.hid (HSN.out (by rw [HP.out, HYF.out]; rfl))
       go_wp2_with fail
       refine wp_region_later (by kernel_rfl) (by kernel_rfl) ?_
       repeat (go_big_quiet_step (first | (go_at_call 158; first | with_reducible exact Later.call (L1.out _)) | (go_at_call 159; first | with_reducible exact Later.call (A1.out _) | with_reducible exact Later.call (A2.out _)) | (go_at_call 157; first | with_reducible exact Later.call (M1.out _) | with_reducible exact Later.call (M2.out _))))
       refine wpQuiet_nil ?_
       intro w5 hw'
       obtain ⟨⟨_, hx5⟩, rfl⟩ := hw'
       clear hs hw0 hw1 hw2 q0
       go_wp2_with fail
       go_roundg (gk-1)
       case measure => omega
       case rel => exact ⟨k+1, by omega, by omega, by go_num, hB.trans hx5, by rw [HN1.out]; exact HOWN.out.ext hx5⟩
      ·have HY1 := Lib.hid (HSY.out (by rw [HP.out, HYF.out]; rfl))
       go_wp2_with fail
       refine wp_region_later (by kernel_rfl) (by kernel_rfl) ?_
       repeat (go_big_quiet_step (first | (go_at_call 158; first | with_reducible exact Later.call (L1.out _)) | (go_at_call 159; first | with_reducible exact Later.call (A1.out _) | with_reducible exact Later.call (A2.out _)) | (go_at_call 157; first | with_reducible exact Later.call (M1.out _) | with_reducible exact Later.call (M2.out _))))
       refine wpQuiet_nil ?_
       intro w5 hw'
       obtain ⟨⟨_, hx5⟩, rfl⟩ := hw'
       clear hs hw0 hw1 hw2 q0
       have hB5 := hB.trans hx5
       have hs5 := hB5.size
       go_wp2_with (at_builtin; refine wpList_appendInt elInts rfl _ _ rfl rfl rfl (HOWN.out.ext hx5) rfl (by omega) (by omega) ?_; intro v' w' hown2 hb2)
       go_roundg (gk-1)
       case measure => omega
       case rel => exact ⟨k+1, by omega, by omega, by go_num, hB5.upto hb2 (Nat.le_refl _), by rw [HY1.out]; exact hown2⟩
    ·have hyd : (y == x.f) = false := by simp [hyf]
     have HYF := Lib.hid hyd
     clear hyf
     have HN1 := Lib.hid (HSN.out (by rw [HP.out, HYF.out]; rfl))
     go_wp2_with fail
     refine wp_region_later (by kernel_rfl) (by kernel_rfl) ?_
     repeat (go_big_quiet_step (first | (go_at_call 158; first | with_reducible exact Later.call (L1.out _)) | (go_at_call 159; first | with_reducible exact Later.call (A1.out _) | with_reducible exact Later.call (A2.out _)) | (go_at_call 157; first | with_reducible exact Later.call (M1.out _) | with_reducible exact Later.call (M2.out _))))
     refine wpQuiet_nil ?_
     intro w5 hw'
     obtain ⟨⟨_, hx5⟩, rfl⟩ := hw'
     clear hs hw0 hw1 hw2 q0
     go_wp2_with fail
     go_roundg (gk-1)
     case measure => omega
     case rel => exact ⟨k+1, by omega, by omega, by go_num, hB.trans hx5, by rw [HN1.out]; exact HOWN.out.ext hx5⟩
   ·obtain rfl : k = l.length := by omega
    go_wp2_with fail
    go_ret
    exact ⟨_, rfl, OInts.low (by rw [HPL.out]; exact hown) (by have := hE0.size; have := hx6.size; omega), hE0.trans (hx6.trans hB)⟩
end Go.Proofs.YtpmlcfgbfhgpgaaGreatDoor
