/- The places of a rule in a word; both packages. -/
import Derived.Test.YtpmlcfgbfhgpgaaGreatDoorRulB
namespace Go.Proofs.YtpmlcfgbfhgpgaaGreatDoor
open Go.RowKit Go.Shelf
set_option linter.unusedVariables false
theorem wf_int {i : Int} (h : (Lit.int .i64 i).wf = true) : -9223372036854775808 ≤ i ∧ i ≤ 9223372036854775807 := by
 have := h; simp [Lit.wf] at this; exact this
theorem wf_mk {i : Int} (h : -9223372036854775808 ≤ i ∧ i ≤ 9223372036854775807) : (Lit.int .i64 i).wf = true := by
 simp [Lit.wf]; exact h
theorem place_out {x : Rul} {l : List Int} {i : Int} {k : Nat} (h : inB i 0 ((l.length : Int) - k) = false) (hl : lng x = k) :
  (decide (0 ≤ i) && decide (i + lng x ≤ l.length) && ((x.f == -1 || atI l i == x.f) && (mayB x.l (atI l (i - 1)) && mayB x.r (atI l (i + lng x))))) = false := by
 have : (decide (0 ≤ i) && decide (i + (lng x : Int) ≤ l.length)) = false := by
  rw [hl, Bool.and_eq_false_iff, decide_eq_false_iff_not, decide_eq_false_iff_not]
  simp only [inB, Bool.and_eq_false_iff, decide_eq_false_iff_not] at h
  omega
 rw [this]; rfl
theorem place_in {x : Rul} {l : List Int} {n k : Nat} (hl : lng x = k) (hn : n + k ≤ l.length) :
  (decide ((0 : Int) ≤ (n : Int)) && decide ((n : Int) + lng x ≤ l.length) && ((x.f == -1 || atI l n == x.f) && (mayB x.l (atI l ((n : Int) - 1)) && mayB x.r (atI l ((n : Int) + lng x))))) =
   ((x.f == -1 || atI l n == x.f) && (mayB x.l (atI l ((n : Int) - 1)) && mayB x.r (atI l ((n : Int) + (k : Int))))) := by
 have : (decide ((0 : Int) ≤ (n : Int)) && decide ((n : Int) + (lng x : Int) ≤ l.length)) = true := by
  rw [hl, Bool.and_eq_true, decide_eq_true_eq, decide_eq_true_eq]; omega
 rw [this, hl]; rfl
theorem atI_nat {l : List Int} {i : Nat} (h : i < l.length) : atI l i = l[i]?.getD 0 := by
 rw [atI, if_pos (by omega)]; simp
set_option maxHeartbeats 2000000 in
set_option maxRecDepth 100000 in
theorem isPlace_c (tv lv rv wv : Value) (x : Rul) (l : List Int) (i : Int) (w : World) (h : RulR w tv lv rv x) (hw : Ints w wv l) (hf : nbB x.f = true) (hl : l.length ≤ 1000) (hi : (Lit.int .i64 i).wf = true) :
  Calls Tryz.prog 236 #[.agg #[.int .i64 x.f, tv, lv, rv], wv, .int .i64 i] w (RV (.bool (placeB x l i)) w) := by
 obtain ⟨wA, hwA⟩ : ∃ wA, wA = w.alloc (.cells #[.int .i64 x.f, tv, lv, rv] 70) := ⟨_, rfl⟩
 have hE0 : Ext w wA := by rw [hwA]; exact Ext.alloc _ _
 have k0 : ∀ W, Ext wA W → W.cell? ⟨w.heap.size, 0, none⟩ = some (.int .i64 x.f) := by rw [hwA]; exact kept_alloc w _ _ rfl
 have k1 : ∀ W, Ext wA W → W.cell? ⟨w.heap.size, 1, none⟩ = some tv := by rw [hwA]; exact kept_alloc w _ _ rfl
 have k2 : ∀ W, Ext wA W → W.cell? ⟨w.heap.size, 2, none⟩ = some lv := by rw [hwA]; exact kept_alloc w _ _ rfl
 have k3 : ∀ W, Ext wA W → W.cell? ⟨w.heap.size, 3, none⟩ = some rv := by rw [hwA]; exact kept_alloc w _ _ rfl
 have H0 : Ext wA wA := Ext.refl _
 obtain ⟨a, c, rfl, _, _, H⟩ := hw.open_
 have HI := Lib.hid (hw.ext hE0)
 have HR := Lib.hid (h.ext hE0)
 have HW := Lib.hid hwA; clear hwA
 have hs : ∀ s : Later wA, Ext wA s.w := fun s => s.ext
 obtain ⟨hi1, hi2⟩ := wf_int hi
 have HPB := Lib.hid (show placeB x l i = (decide (0 ≤ i) && decide (i + lng x ≤ l.length) && ((x.f == -1 || atI l i == x.f) && (mayB x.l (atI l (i - 1)) && mayB x.r (atI l (i + lng x))))) from rfl)
 generalize placeB x l i = P at *
 have HML := Lib.hid (fun (s : Later wA) n => rmay_c lv x.l n s.w (HR.out.l.ext s.ext))
 have HMR := Lib.hid (fun (s : Later wA) n => rmay_c rv x.r n s.w (HR.out.r.ext s.ext))
 have HAT := Lib.hid (fun (s : Later wA) i (h1 : -100000 ≤ i) (h2 : i ≤ 100000) => rat_c _ l i s.w (HI.out.ext s.ext) h1 h2 (by omega))
 have hwl : IntKind.i64.wrap ((l.length : Int) - 1) = (l.length : Int) - 1 := IntWalk.i64_in _ (by omega)
 by_cases hfn : x.f = -1
 ·have HF := Lib.hid hfn
  have hf0 : decide (x.f < 0) = true := by simp [hfn]
  clear hfn
  have hlg : lng x = 0 := by simp [lng, HF.out]
  have HLG := Lib.hid hlg; clear hlg
  cases hin : inB i 0 (l.length : Int)
  ·have HC := Lib.hid (fun s : Later wA => rwithin_c i 0 (l.length : Int) s.w)
   rw [hin] at HC
   have HIN := Lib.hid hin; clear hin
   go_enter Tryz.func236, Tryz.ntmps236
   go_wp2_with fail
   rw [← HW.out]
   refine wp_region_later (by kernel_rfl) (by kernel_rfl) ?_
   repeat (go_big_quiet_step (first | (go_at_call 166; first | with_reducible exact Later.call (HC.out _))))
   refine wpQuiet_nil ?_
   intro w5 hw'
   obtain ⟨⟨_, hx5⟩, rfl⟩ := hw'
   clear hs
   go_wp2_with fail
   go_ret
   exact RV.bool (by rw [HPB.out]; exact (place_out (by simpa using HIN.out) HLG.out).symm) (hE0.trans hx5)
  ·have HC := Lib.hid (fun s : Later wA => rwithin_c i 0 (l.length : Int) s.w)
   rw [hin] at HC
   obtain ⟨n, rfl, hn⟩ : ∃ n : Nat, i = n ∧ n + 0 ≤ l.length := ⟨i.toNat, by simp [inB] at hin; omega, by simp [inB] at hin; omega⟩
   clear hin
   have hw1 : IntKind.i64.wrap ((n : Int) - 1) = (n : Int) - 1 := IntWalk.i64_in _ (by omega)
   have hw2 : IntKind.i64.wrap ((n : Int) + 1) = (n : Int) + 1 := IntWalk.i64_in _ (by omega)
   have A1 := Lib.hid (fun s : Later wA => HAT.out s ((n : Int) - 1) (by omega) (by omega))
   have A2 := Lib.hid (fun s : Later wA => HAT.out s ((n : Int) + 0) (by omega) (by omega))
   rw [Int.add_zero] at A2
   have HPB2 := Lib.hid (place_in (x := x) (l := l) HLG.out hn)
   have HP3 := Lib.hid (HPB.out.trans HPB2.out)
   have M1 := Lib.hid (fun s : Later wA => HML.out s (atI l ((n : Int) - 1)))
   have M2 := Lib.hid (fun s : Later wA => HMR.out s (atI l (n : Int)))
   have HP4 : Hid (P = (mayB x.l (atI l ((n : Int) - 1)) && mayB x.r (atI l (n : Int)))) := Lib.hid (by rw [HP3.out, HF.out]; simp [Int.add_zero])
   generalize atI l ((n : Int) - 1) = y1 at *
   generalize atI l (n : Int) = y2 at *
   generalize hm1 : mayB x.l y1 = m1 at *
   generalize hm2 : mayB x.r y2 = m2 at *
   clear hm1 hm2
   cases m1
   ·go_enter Tryz.func236, Tryz.ntmps236
    go_wp2_with fail
    rw [← HW.out]
    refine wp_region_later (by kernel_rfl) (by kernel_rfl) ?_
    repeat (go_big_quiet_step (first | (go_at_call 166; first | with_reducible exact Later.call (HC.out _)) | (go_at_call 254; first | with_reducible exact Later.call (A1.out _) | with_reducible exact Later.call (A2.out _)) | (go_at_call 253; first | with_reducible exact Later.call (M1.out _) | with_reducible exact Later.call (M2.out _))))
    refine wpQuiet_nil ?_
    intro w5 hw'
    obtain ⟨⟨_, hx5⟩, rfl⟩ := hw'
    clear hs
    go_wp2_with fail
    go_ret
    exact RV.bool (by rw [HP4.out]; rfl) (hE0.trans hx5)
   ·go_enter Tryz.func236, Tryz.ntmps236
    go_wp2_with fail
    rw [← HW.out]
    refine wp_region_later (by kernel_rfl) (by kernel_rfl) ?_
    repeat (go_big_quiet_step (first | (go_at_call 166; first | with_reducible exact Later.call (HC.out _)) | (go_at_call 254; first | with_reducible exact Later.call (A1.out _) | with_reducible exact Later.call (A2.out _)) | (go_at_call 253; first | with_reducible exact Later.call (M1.out _) | with_reducible exact Later.call (M2.out _))))
    refine wpQuiet_nil ?_
    intro w5 hw'
    obtain ⟨⟨_, hx5⟩, rfl⟩ := hw'
    clear hs
    go_wp2_with fail
    go_ret
    exact RV.bool (by rw [HP4.out]; rfl) (hE0.trans hx5)
 ·have HF := Lib.hid hfn
  have HFB := Lib.hid (show (x.f == -1) = false by simp [hfn])
  have hf0 : decide (x.f < 0) = false := by simp [nbB, inB] at hf; simp; omega
  clear hfn
  have hlg : lng x = 1 := by simp [lng, HF.out]
  have HLG := Lib.hid hlg; clear hlg
  cases hin : inB i 0 ((l.length : Int) - 1)
  ·have HC := Lib.hid (fun s : Later wA => rwithin_c i 0 ((l.length : Int) - 1) s.w)
   rw [hin] at HC
   have HIN := Lib.hid hin; clear hin
   go_enter Tryz.func236, Tryz.ntmps236
   go_wp2_with fail
   rw [← HW.out]
   refine wp_region_later (by kernel_rfl) (by kernel_rfl) ?_
   repeat (go_big_quiet_step (first | (go_at_call 166; first | with_reducible exact Later.call (HC.out _))))
   refine wpQuiet_nil ?_
   intro w5 hw'
   obtain ⟨⟨_, hx5⟩, rfl⟩ := hw'
   clear hs
   go_wp2_with fail
   go_ret
   exact RV.bool (by rw [HPB.out]; exact (place_out (by simpa using HIN.out) HLG.out).symm) (hE0.trans hx5)
  ·have HC := Lib.hid (fun s : Later wA => rwithin_c i 0 ((l.length : Int) - 1) s.w)
   rw [hin] at HC
   obtain ⟨n, rfl, hn⟩ : ∃ n : Nat, i = n ∧ n + 1 ≤ l.length := ⟨i.toNat, by simp [inB] at hin; omega, by simp [inB] at hin; omega⟩
   clear hin
   have hw1 : IntKind.i64.wrap ((n : Int) - 1) = (n : Int) - 1 := IntWalk.i64_in _ (by omega)
   have hw2 : IntKind.i64.wrap ((n : Int) + 1) = (n : Int) + 1 := IntWalk.i64_in _ (by omega)
   have A1 := Lib.hid (fun s : Later wA => HAT.out s ((n : Int) - 1) (by omega) (by omega))
   have A2 := Lib.hid (fun s : Later wA => HAT.out s ((n : Int) + 1) (by omega) (by omega))
   have HPB2 := Lib.hid (place_in (x := x) (l := l) HLG.out hn)
   have HP3 := Lib.hid (HPB.out.trans HPB2.out)
   obtain ⟨b, o, rfl, hc0⟩ := H.out n (by omega)
   have hci := hE0.keep hc0
   have q0 := fun s : Later wA => s.ext.keep hci
   have HATN := Lib.hid (atI_nat (l := l) (i := n) (by omega))
   generalize hy : l[n]?.getD 0 = y at *
   clear hy
   have hnl : n < l.length := by omega
   by_cases hyf : y = x.f
   ·have hyd : (y == x.f) = true := by simp [hyf]
    have HYF := Lib.hid hyf; clear hyf
    have M1 := Lib.hid (fun s : Later wA => HML.out s (atI l ((n : Int) - 1)))
    have M2 := Lib.hid (fun s : Later wA => HMR.out s (atI l ((n : Int) + 1)))
    have HP4 : Hid (P = (mayB x.l (atI l ((n : Int) - 1)) && mayB x.r (atI l ((n : Int) + 1)))) := Lib.hid (by rw [HP3.out, HATN.out, HYF.out, HFB.out]; simp)
    generalize atI l ((n : Int) - 1) = y1 at *
    generalize atI l ((n : Int) + 1) = y2 at *
    generalize hm1 : mayB x.l y1 = m1 at *
    generalize hm2 : mayB x.r y2 = m2 at *
    clear hm1 hm2
    cases m1
    ·go_enter Tryz.func236, Tryz.ntmps236
     go_wp2_with fail
     rw [← HW.out]
     refine wp_region_later (by kernel_rfl) (by kernel_rfl) ?_
     repeat (go_big_quiet_step (first | (go_at_call 166; first | with_reducible exact Later.call (HC.out _)) | (go_at_call 254; first | with_reducible exact Later.call (A1.out _) | with_reducible exact Later.call (A2.out _)) | (go_at_call 253; first | with_reducible exact Later.call (M1.out _) | with_reducible exact Later.call (M2.out _))))
     refine wpQuiet_nil ?_
     intro w5 hw'
     obtain ⟨⟨_, hx5⟩, rfl⟩ := hw'
     clear hs q0
     go_wp2_with fail
     go_ret
     exact RV.bool (by rw [HP4.out]; rfl) (hE0.trans hx5)
    ·go_enter Tryz.func236, Tryz.ntmps236
     go_wp2_with fail
     rw [← HW.out]
     refine wp_region_later (by kernel_rfl) (by kernel_rfl) ?_
     repeat (go_big_quiet_step (first | (go_at_call 166; first | with_reducible exact Later.call (HC.out _)) | (go_at_call 254; first | with_reducible exact Later.call (A1.out _) | with_reducible exact Later.call (A2.out _)) | (go_at_call 253; first | with_reducible exact Later.call (M1.out _) | with_reducible exact Later.call (M2.out _))))
     refine wpQuiet_nil ?_
     intro w5 hw'
     obtain ⟨⟨_, hx5⟩, rfl⟩ := hw'
     clear hs q0
     go_wp2_with fail
     go_ret
     exact RV.bool (by rw [HP4.out]; rfl) (hE0.trans hx5)
   ·have hyd : (y == x.f) = false := by simp [hyf]
    have HYF := Lib.hid hyf; clear hyf
    go_enter Tryz.func236, Tryz.ntmps236
    go_wp2_with fail
    rw [← HW.out]
    refine wp_region_later (by kernel_rfl) (by kernel_rfl) ?_
    repeat (go_big_quiet_step (first | (go_at_call 166; first | with_reducible exact Later.call (HC.out _))))
    refine wpQuiet_nil ?_
    intro w5 hw'
    obtain ⟨⟨_, hx5⟩, rfl⟩ := hw'
    clear hs q0
    go_wp2_with fail
    go_ret
    exact RV.bool (by rw [HP3.out, HATN.out, HFB.out]; simp [HYF.out]) (hE0.trans hx5)
end Go.Proofs.YtpmlcfgbfhgpgaaGreatDoor
