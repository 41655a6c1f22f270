/- SchoolMerges: the walk. -/
import Derived.Test.YtpmlcfgbfhgpgaaGreatDoorJoinB
import Derived.Test.YtpmlcfgbfhgpgaaGreatDoorJoinC
namespace Go.Proofs.YtpmlcfgbfhgpgaaGreatDoor
open Go.RowKit Go.Shelf
set_option linter.unusedVariables false

theorem mergeV_lit (a b : ByteArray) : ∃ (x : ByteArray) (n e : Int), mergeV a b = .tuple #[.string x, .int .i64 n, .int .i64 e] := by
  unfold mergeV
  simp only
  split
  · exact ⟨_, _, _, rfl⟩
  · split
    · exact ⟨_, _, _, rfl⟩
    · split
      · exact ⟨_, _, _, rfl⟩
      · exact ⟨_, _, _, rfl⟩
set_option maxHeartbeats 2000000 in
theorem schoolMerges_c (a b : ByteArray) (w : World) (ha : a.size ≤ maxLen) (hb : b.size ≤ maxLen) (hE : Env w) (hT : ErrT w) (h7 : 7 ≤ w.heap.size) :
    Calls Tryz.prog 10 #[.string a, .string b] w (RV (.bool true) w) := by
  have HSA := Lib.hid (fun W (q : Ext w W) => sane_c W (hE.ext q) (hT.ext q) (Nat.le_trans h7 q.size))
  unfold maxLen at ha hb
  by_cases h1 : 20000 < a.size
  · go_enter Tryz.func10, Tryz.ntmps10
    go_wp2_with fail
    refine (HSA.out w (Ext.refl w)).mono ?_; rintro e w1 ⟨rfl, hx1⟩
    go_wp2_with fail
    go_ret
    exact ⟨rfl, hx1⟩
  · by_cases h2 : 20000 < b.size
    · go_enter Tryz.func10, Tryz.ntmps10
      go_wp2_with fail
      refine (HSA.out w (Ext.refl w)).mono ?_; rintro e w1 ⟨rfl, hx1⟩
      go_wp2_with fail
      go_ret
      exact ⟨rfl, hx1⟩
    · have HM := Lib.hid (Merge_c a b w hE (by omega) (by omega))
      have HR := Lib.hid (fun W (q : Ext w W) => rMerge_c a b W (hE.ext q) (by omega) (by omega))
      obtain ⟨x, n, e, hV⟩ := mergeV_lit a b
      rw [hV] at HM HR
      clear hV hE hT
      have hxx : (x.toList == x.toList) = true := by simp
      go_enter Tryz.func10, Tryz.ntmps10
      go_wp2_with fail
      refine HM.out.mono ?_; rintro e w1 ⟨rfl, hx1⟩
      go_wp2_with fail
      refine (HR.out w1 hx1).mono ?_; rintro e w2 ⟨rfl, hx2⟩
      go_wp2_with fail
      refine (HSA.out w2 (hx1.trans hx2)).mono ?_; rintro e w3 ⟨rfl, hx3⟩
      go_wp2_with fail
      go_ret
      exact ⟨rfl, (hx1.trans hx2).trans hx3⟩
end Go.Proofs.YtpmlcfgbfhgpgaaGreatDoor
