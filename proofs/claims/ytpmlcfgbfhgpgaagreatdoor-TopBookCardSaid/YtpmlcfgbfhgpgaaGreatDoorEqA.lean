/- Lists of words are compared by the reference. -/
import Derived.Test.YtpmlcfgbfhgpgaaGreatDoorFrmC
import Derived.Test.YtpmlcfgbfhgpgaaGreatDoorJoinB
import Derived.Test.YtpmlcfgbfhgpgaaGreatDoorRefOne
namespace Go.Proofs.YtpmlcfgbfhgpgaaGreatDoor
open Go.RowKit Go.Shelf
set_option linter.unusedVariables false
set_option maxHeartbeats 400000 in
theorem sameWords4_c (va vb : Value) (a b : List (List Int)) (w : World) (ha : Rows w va a) (hb : Rows w vb b) :
    Calls Tryz.prog 63 #[va, vb] w (RQ (rowsB a b) w) := by
  obtain ⟨aa, ca, rfl, hla, hma, Hca⟩ := ha.open_
  obtain ⟨ab, cb, rfl, hlb, hmb, Hcb⟩ := hb.open_
  clear ha hb
  by_cases hl : a.length = b.length
  · have H1 : ((a.length : Int) != (b.length : Int)) = false := by simp [hl]
    have hl1 : b.length ≤ a.length := by omega
    have hl2 : a.length ≤ b.length := by omega
    have HL := Lib.hid hl; clear hl
    go_enter Tryz.func63, Tryz.ntmps63
    go_wp2_with fail
    go_loopg [5] a.length (fun m i wr => ∃ k : Nat, k ≤ a.length ∧ a.length ≤ k + m ∧ i = .int .i64 k ∧ (∃ n, wr = w.drewN n) ∧ Hid (∀ j, j < k → sameIntsB (a[j]?.getD []) (b[j]?.getD []) = true))
    case atStart => exact ⟨0, by omega, by omega, rfl, ⟨0, rfl⟩, fun j hj => by omega⟩
    case round =>
      obtain ⟨k, hk, hk2, rfl, ⟨nd, hwr⟩, hE⟩ := hrel
      have hwx : Ext w wr := by rw [hwr]; exact Ext.drewN _ _
      have HW := Lib.hid hwr; clear hwr
      by_cases hlt : k < a.length
      · obtain ⟨ba, oa, rfl, u, hc1, hi1⟩ := Hca.out k hlt
        obtain ⟨bb, ob, rfl, v, hc2, hi2⟩ := Hcb.out k (by omega)
        replace hc1 := hwx.keep hc1
        replace hc2 := hwx.keep hc2
        have HS := Lib.hid (fun W (hx : Ext w W) => sameInts4_c u v _ _ W (hi1.ext hx) (hi2.ext hx))
        clear hi1 hi2
        cases hs : sameIntsB (a[k]?.getD []) (b[k]?.getD [])
        · rw [hs] at HS
          have HX := Lib.hid hs; clear hs
          go_wp2_with fail
          go_quiet ((go_at_call 30; exact RQ.quiet (HS.out _ (hwx.trans (Ext.drewN _ _)))))
          go_wp2_with fail
          go_ret
          exact RQ.mkW (n := nd) (by rw [rowsB, allB_false hlt HX.out]; simp) HW.out _
        · rw [hs] at HS
          have HX := Lib.hid hs; clear hs
          go_wp2_with fail
          go_quiet ((go_at_call 30; exact RQ.quiet (HS.out _ (hwx.trans (Ext.drewN _ _)))))
          go_wp2_with fail
          go_roundg (gk-1)
          case measure => omega
          case rel => exact ⟨k+1, by omega, by omega, by go_num, ⟨_, by rw [HW.out, World.drewN_drewN]⟩, range_step hE.out HX.out⟩
      · go_wp2_with fail
        go_ret
        exact RQ.mkV (n := nd) (by rw [rowsB, allB_true (fun j hj => hE.out j (by omega))]; simp [HL.out]) HW.out
  · have H1 : ((a.length : Int) != (b.length : Int)) = true := by simp; omega
    have HL := Lib.hid hl; clear hl
    go_enter Tryz.func63, Tryz.ntmps63
    go_wp2_with fail
    go_ret
    exact RQ.mk0 (by have := HL.out; simp [rowsB, this])
theorem sameIntsB_id (l : List Int) : sameIntsB l l = true := by rw [sameIntsB_iff]; exact beq_self_eq_true l
theorem sameWords4_t (va vb : Value) (a : List (List Int)) (w : World) (ha : Rows w va a) (hb : Rows w vb a) : Calls Tryz.prog 63 #[va, vb] w (RV (.bool true) w) := by
  refine (sameWords4_c va vb a a w ha hb).mono ?_; rintro e w' ⟨rfl, n, rfl⟩
  exact ⟨by rw [rowsB_iff, beq_self_eq_true], Ext.drewN _ _⟩
theorem sameInts4_t (va vb : Value) (a : List Int) (w : World) (ha : Ints w va a) (hb : Ints w vb a) : Calls Tryz.prog 30 #[va, vb] w (RV (.bool true) w) := by
  refine (sameInts4_c va vb a a w ha hb).mono ?_; rintro e w' ⟨rfl, n, rfl⟩
  exact ⟨by rw [sameIntsB_id], Ext.drewN _ _⟩
theorem sameChs4_t (va vb : Value) (a : List Ch) (w : World) (ha : Chs w va a) (hb : Chs w vb a) : Calls Tryz.prog 29 #[va, vb] w (RV (.bool true) w) := by
  have := sameChs4_c va vb a a w ha hb
  rwa [show decide (a = a) = true by simp] at this
end Go.Proofs.YtpmlcfgbfhgpgaaGreatDoor
