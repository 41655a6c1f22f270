/- SchoolNews: the walk. -/
import Derived.Test.YtpmlcfgbfhgpgaaGreatDoorJoinE
import Derived.Test.YtpmlcfgbfhgpgaaGreatDoorNilC
import Derived.Test.YtpmlcfgbfhgpgaaGreatDoorLaw9L
namespace Go.Proofs.YtpmlcfgbfhgpgaaGreatDoor
open Go.RowKit Go.Shelf
set_option linter.unusedVariables false
set_option maxHeartbeats 8000000 in
set_option maxRecDepth 100000 in
theorem schoolNews_c (v : Value) (text : ByteArray) (s : List Rul) (w : World) (h : Ruls w v s) (ht : text.size ≤ maxLen) (hE : Env w) (hT : ErrT w) (h7 : 7 ≤ w.heap.size) :
    Calls Tryz.prog 16 #[v, .string text] w (RV (.bool true) w) := by
  have HLG := Lib.hid (fun W (q : Ext w W) => Large9_c v s W (h.ext q))
  have HNB := Lib.hid (fun W (q : Ext w W) => nBook_c W (hE.ext q))
  have HSA := Lib.hid (fun W (q : Ext w W) => sane_c W (hE.ext q) (hT.ext q) (Nat.le_trans h7 q.size))
  have HBE := Lib.hid (fun W (q : Ext w W) => Begin_c (fun _ => false) v s W (fun k hk => by cases hk) (h.ext q))
  have HFA := Lib.hid (fun W (q : Ext w W) (hv : validS s ≠ 0) => failed_c v s W (h.ext q) hv (hE.ext q) (hT.ext q) (Nat.le_trans h7 q.size))
  have HE := Lib.hid hE
  have HT := Lib.hid hT
  obtain ⟨av, cv, rfl, _⟩ := h.open_
  clear h hE hT ht
  cases hb1 : largeB s with
  | true =>
    rw [hb1] at HLG
    clear hb1
    go_enter Tryz.func16, Tryz.ntmps16
    go_wp2_with fail
    refine (nBase_c w).mono ?_; rintro e n1 ⟨u1, rfl, hn1⟩
    go_wp2_with fail
    refine (nWord_c n1).mono ?_; rintro e n2 ⟨u2, rfl, hn2⟩
    have Y2 := hn1.trans hn2
    go_wp2_with fail
    refine (nDo_c text n2).mono ?_; rintro e n3 ⟨rfl, hn3⟩
    have Y3 := Y2.trans hn3
    go_wp2_with fail
    refine (nLearned_c n3).mono ?_; rintro e n4 ⟨p4, q4, rfl, hn4⟩
    have Y4 := Y3.trans hn4
    go_wp2_with fail
    refine (nGrounds_c n4).mono ?_; rintro e n5 ⟨p5, q5, rfl, hn5⟩
    have Y5 := Y4.trans hn5
    go_wp2_with fail
    refine (nSlate_c n5).mono ?_; rintro e n6 ⟨p6, q6, rfl, hn6⟩
    have Y6 := Y5.trans hn6
    go_wp2_with fail
    refine (nForms_c n6).mono ?_; rintro e n7 ⟨p7, q7, rfl, hn7⟩
    have Y7 := Y6.trans hn7
    go_wp2_with fail
    refine (nEnded_c n7).mono ?_; rintro e n8 ⟨rfl, hn8⟩
    have Y8 := Y7.trans hn8
    go_wp2_with fail
    refine (HNB.out n8 Y8).mono ?_; rintro e n9 ⟨rfl, hn9⟩
    have Y9 := Y8.trans hn9
    go_wp2_with fail
    refine (nAudit_c n9).mono ?_; rintro e n10 ⟨rfl, hn10⟩
    have Y10 := Y9.trans hn10
    go_wp2_with fail
    refine (HLG.out n10 Y10).mono ?_; rintro e w1 ⟨rfl, hx1'⟩
    have hx1 := Y10.trans hx1'
    go_wp2_with fail
    refine (HSA.out w1 hx1).mono ?_; rintro e w2 ⟨rfl, hx2⟩
    go_wp2_with fail
    go_ret
    exact ⟨rfl, hx1.trans hx2⟩
  | false =>
    rw [hb1] at HLG
    clear hb1
    by_cases hv : validS s = 0
    · have HV := Lib.hid hv; clear hv
      go_enter Tryz.func16, Tryz.ntmps16
      go_wp2_with fail
      refine (nBase_c w).mono ?_; rintro e n1 ⟨u1, rfl, hn1⟩
      go_wp2_with fail
      refine (nWord_c n1).mono ?_; rintro e n2 ⟨u2, rfl, hn2⟩
      have Y2 := hn1.trans hn2
      go_wp2_with fail
      refine (nDo_c text n2).mono ?_; rintro e n3 ⟨rfl, hn3⟩
      have Y3 := Y2.trans hn3
      go_wp2_with fail
      refine (nLearned_c n3).mono ?_; rintro e n4 ⟨p4, q4, rfl, hn4⟩
      have Y4 := Y3.trans hn4
      go_wp2_with fail
      refine (nGrounds_c n4).mono ?_; rintro e n5 ⟨p5, q5, rfl, hn5⟩
      have Y5 := Y4.trans hn5
      go_wp2_with fail
      refine (nSlate_c n5).mono ?_; rintro e n6 ⟨p6, q6, rfl, hn6⟩
      have Y6 := Y5.trans hn6
      go_wp2_with fail
      refine (nForms_c n6).mono ?_; rintro e n7 ⟨p7, q7, rfl, hn7⟩
      have Y7 := Y6.trans hn7
      go_wp2_with fail
      refine (nEnded_c n7).mono ?_; rintro e n8 ⟨rfl, hn8⟩
      have Y8 := Y7.trans hn8
      go_wp2_with fail
      refine (HNB.out n8 Y8).mono ?_; rintro e n9 ⟨rfl, hn9⟩
      have Y9 := Y8.trans hn9
      go_wp2_with fail
      refine (nAudit_c n9).mono ?_; rintro e n10 ⟨rfl, hn10⟩
      have Y10 := Y9.trans hn10
      go_wp2_with fail
      refine (HLG.out n10 Y10).mono ?_; rintro e w1 ⟨rfl, hx1'⟩
      have hx1 := Y10.trans hx1'
      go_wp2_with fail
      refine (HBE.out w1 hx1).mono ?_; rintro e w3 ⟨hx3, ⟨h0, _⟩ | ⟨_, b, m1, rv, v0, gh, gq, uq, he, hbz, hgz1, hgz2, hSc, hNr⟩⟩
      · exact absurd HV.out h0
      subst he
      have hX3 := hx1.trans hx3
      have HRR := Lib.hid (refR_new hNr (by omega) (by omega) rfl)
      have HEQ := Lib.hid (Equal_c hSc HRR.out (HE.out.ext hX3))
      have HAU := Lib.hid (fun W (q : Ext w3 W) => Audit_c (hSc.ext q) (made_new s) (HE.out.ext (hX3.trans q)) (HT.out.ext (hX3.trans q)) (Nat.le_trans h7 (hX3.trans q).size))
      clear hSc hNr
      go_wp2_with fail
      refine HEQ.out.mono ?_; rintro e w4 ⟨rfl, hx4⟩
      go_wp2_with fail
      refine (HAU.out w4 hx4).mono ?_; rintro e w5 ⟨rfl, hx5⟩
      have hX5 := (hX3.trans hx4).trans hx5
      go_wp2_with fail
      refine (HSA.out w5 hX5).mono ?_; rintro e w6 ⟨rfl, hx6⟩
      go_wp2_with fail
      go_ret
      exact ⟨rfl, hX5.trans hx6⟩
    · have HV := Lib.hid hv; clear hv
      go_enter Tryz.func16, Tryz.ntmps16
      go_wp2_with fail
      refine (nBase_c w).mono ?_; rintro e n1 ⟨u1, rfl, hn1⟩
      go_wp2_with fail
      refine (nWord_c n1).mono ?_; rintro e n2 ⟨u2, rfl, hn2⟩
      have Y2 := hn1.trans hn2
      go_wp2_with fail
      refine (nDo_c text n2).mono ?_; rintro e n3 ⟨rfl, hn3⟩
      have Y3 := Y2.trans hn3
      go_wp2_with fail
      refine (nLearned_c n3).mono ?_; rintro e n4 ⟨p4, q4, rfl, hn4⟩
      have Y4 := Y3.trans hn4
      go_wp2_with fail
      refine (nGrounds_c n4).mono ?_; rintro e n5 ⟨p5, q5, rfl, hn5⟩
      have Y5 := Y4.trans hn5
      go_wp2_with fail
      refine (nSlate_c n5).mono ?_; rintro e n6 ⟨p6, q6, rfl, hn6⟩
      have Y6 := Y5.trans hn6
      go_wp2_with fail
      refine (nForms_c n6).mono ?_; rintro e n7 ⟨p7, q7, rfl, hn7⟩
      have Y7 := Y6.trans hn7
      go_wp2_with fail
      refine (nEnded_c n7).mono ?_; rintro e n8 ⟨rfl, hn8⟩
      have Y8 := Y7.trans hn8
      go_wp2_with fail
      refine (HNB.out n8 Y8).mono ?_; rintro e n9 ⟨rfl, hn9⟩
      have Y9 := Y8.trans hn9
      go_wp2_with fail
      refine (nAudit_c n9).mono ?_; rintro e n10 ⟨rfl, hn10⟩
      have Y10 := Y9.trans hn10
      go_wp2_with fail
      refine (HLG.out n10 Y10).mono ?_; rintro e w1 ⟨rfl, hx1'⟩
      have hx1 := Y10.trans hx1'
      go_wp2_with fail
      refine (HBE.out w1 hx1).mono ?_; rintro e w3 ⟨hx3, ⟨h0, he⟩ | ⟨h0, _⟩⟩
      rotate_left
      · exact absurd h0 HV.out
      clear h0
      subst he
      have hX3 := hx1.trans hx3
      go_wp2_with fail
      refine (HFA.out w3 hX3 HV.out).mono ?_; rintro e w4 ⟨rfl, hx4⟩
      go_wp2_with fail
      go_ret
      exact ⟨rfl, hX3.trans hx4⟩
end Go.Proofs.YtpmlcfgbfhgpgaaGreatDoor
