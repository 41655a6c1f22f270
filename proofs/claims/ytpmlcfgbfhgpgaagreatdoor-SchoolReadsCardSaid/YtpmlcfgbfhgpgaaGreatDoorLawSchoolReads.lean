/- SchoolReads: the walk. -/
import Derived.Test.YtpmlcfgbfhgpgaaGreatDoorJoinB
import Derived.Test.YtpmlcfgbfhgpgaaGreatDoorJoinC
namespace Go.Proofs.YtpmlcfgbfhgpgaaGreatDoor
open Go.RowKit Go.Shelf
set_option linter.unusedVariables false

set_option maxHeartbeats 2000000 in
theorem schoolReads_c (a : ByteArray) (z : Int) (w : World) (ha : a.size ≤ maxLen) (hz : (Lit.int .i64 z).wf = true) (hE : Env w) (hT : ErrT w) (h7 : 7 ≤ w.heap.size) :
    Calls Tryz.prog 7 #[.string a, .int .i64 z] w (RV (.bool true) w) := by
  have HSA := Lib.hid (fun W (q : Ext w W) => sane_c W (hE.ext q) (hT.ext q) (Nat.le_trans h7 q.size))
  unfold maxLen at ha
  by_cases h1 : 20000 < a.size
  · go_enter Tryz.func7, Tryz.ntmps7
    go_wp2_with fail
    refine (HSA.out w (Ext.refl w)).mono ?_; rintro e w1 ⟨rfl, hx1⟩
    go_wp2_with fail
    go_ret
    exact ⟨rfl, hx1⟩
  · have HM := Lib.hid (Read_c a w hE (by omega))
    have HR := Lib.hid (fun W (q : Ext w W) => rRead_c a W (hE.ext q) (by omega))
    have HS := Lib.hid (fun W => Sum_c z a W hz (by omega))
    have HQ := Lib.hid (fun W => rSum_c z a W hz (by omega))
    generalize readRest (txt a) = rr at *
    generalize readOrders (txt a) = ro at *
    generalize sumB z a.data.toList = sm at *
    clear hE hT
    have hxx : (rr.toList == rr.toList) = true := by simp
    go_enter Tryz.func7, Tryz.ntmps7
    go_wp2_with fail
    refine HM.out.mono ?_; rintro e w1 ⟨va, rfl, hoa, hx1⟩
    go_wp2_with fail
    refine (HR.out w1 hx1).mono ?_; rintro e w2 ⟨vb, rfl, hob, hx2⟩
    have HT2 := Lib.hid (sameTexts_c va vb ro w2 (Cel.own encT_len (hoa.ext hx2)) (Cel.own encT_len hob))
    obtain ⟨aa, ca, hva, _⟩ := (Cel.own encT_len hoa).open_
    obtain ⟨ab, cb, hvb, _⟩ := (Cel.own encT_len hob).open_
    subst hva hvb
    clear hoa hob
    go_wp2_with fail
    refine HT2.out.mono ?_; rintro e w3 ⟨rfl, n3, hw3⟩
    have hx3 : Ext w w3 := by rw [hw3]; exact (hx1.trans hx2).trans (Ext.drewN _ _)
    clear hw3
    go_wp2_with fail
    refine (HS.out w3).mono ?_; rintro e w4 ⟨rfl, rfl⟩
    go_wp2_with fail
    refine (HQ.out w3).mono ?_; rintro e w5 ⟨rfl, rfl⟩
    go_wp2_with fail
    refine (HSA.out w3 hx3).mono ?_; rintro e w6 ⟨rfl, hx6⟩
    go_wp2_with fail
    go_ret
    exact ⟨rfl, hx3.trans hx6⟩
end Go.Proofs.YtpmlcfgbfhgpgaaGreatDoor
