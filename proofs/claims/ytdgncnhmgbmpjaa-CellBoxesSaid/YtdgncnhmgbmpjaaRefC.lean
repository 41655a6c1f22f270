/- Walks of the reference: which entries match, which one decides, the forms of all cells. -/
import Derived.Test.YtdgncnhmgbmpjaaCellQ
import Derived.Test.YtdgncnhmgbmpjaaLawA
namespace Go.Proofs.Ytdgncnhmgbmpjaa
open Go.RowKit Go.Shelf
set_option linter.unusedVariables false

set_option maxHeartbeats 400000 in
theorem rHolds_c (va vb : Value) (a b : List Int) (w : World) (ha : Ints w va a) (hb : Ints w vb b) (hl : a.length = b.length) (hlo : ∀ i, i < a.length → -1 ≤ a[i]?.getD 0) :
    Calls Try.prog 13 #[va, vb] w (RQ (holdsB a b) w) := by
  obtain ⟨aa, ca, rfl, hla, hma, Hca⟩ := ha.open_
  obtain ⟨ab, cb, rfl, hlb, hmb, Hcb⟩ := hb.open_
  clear ha hb
  have hl1 : b.length ≤ a.length := by omega
  have hl2 : a.length ≤ b.length := by omega
  have HL := Lib.hid hl; have HLO := Lib.hid hlo; clear hl hlo
  go_enter Try.func13, Try.ntmps13
  go_wp2_with fail
  go_loopg [5] a.length (fun m i wr => ∃ k : Nat, k ≤ a.length ∧ a.length ≤ k + m ∧ i = .int .i64 k ∧ (∃ n, wr = w.drewN n) ∧ Hid (∀ j, j < k → coversB (a[j]?.getD 0) (b[j]?.getD 0) = true))
  case atStart => exact ⟨0, by omega, by omega, rfl, ⟨0, rfl⟩, fun j hj => by omega⟩
  case round =>
    obtain ⟨k, hk, hk2, rfl, ⟨nd, hwr⟩, hE⟩ := hrel
    have hwx : Ext w wr := by rw [hwr]; exact Ext.drewN _ _
    have HW := Lib.hid hwr; clear hwr
    by_cases hlt : k < a.length
    · have hltb : k < b.length := by omega
      obtain ⟨ba, oa, rfl, hc1⟩ := Hca.out k hlt
      obtain ⟨bb, ob, rfl, hc2⟩ := Hcb.out k hltb
      replace hc1 := hwx.keep hc1
      replace hc2 := hwx.keep hc2
      have hge := HLO.out k hlt
      generalize hx : a[k]?.getD 0 = x at *
      generalize hy : b[k]?.getD 0 = y at *
      have Hx := Lib.hid hx; have Hy := Lib.hid hy; clear hx hy
      by_cases h0 : 0 ≤ x
      · by_cases hxy : x = y
        · subst hxy
          have hn : (x != x) = false := by simp
          have hd : decide (0 ≤ x) = true := by simpa using h0
          go_wp2_with fail
          go_quiet (fail)
          go_wp2_with fail
          go_roundg (gk-1)
          case measure => omega
          case rel => exact ⟨k+1, by omega, by omega, by go_num, ⟨_, by rw [HW.out, World.drewN_drewN]⟩, range_step hE.out (by rw [Hx.out, Hy.out]; simp [coversB])⟩
        · have hn : (x != y) = true := by simp [hxy]
          have hd : decide (0 ≤ x) = true := by simpa using h0
          have HX := Lib.hid hxy; clear hxy
          go_wp2_with fail
          go_quiet (fail)
          go_wp2_with fail
          go_ret
          exact RQ.mkW (n := nd) (by rw [holdsB, agreesB, allB_false hlt (by rw [Hx.out, Hy.out]; simp [coversB, HX.out]; omega)]) HW.out _
      · have hx1 : x = -1 := by omega
        subst hx1
        go_wp2_with fail
        go_quiet (fail)
        go_wp2_with fail
        go_roundg (gk-1)
        case measure => omega
        case rel => exact ⟨k+1, by omega, by omega, by go_num, ⟨_, by rw [HW.out, World.drewN_drewN]⟩, range_step hE.out (by rw [Hx.out]; simp [coversB])⟩
    · go_wp2_with fail
      go_ret
      exact RQ.mkV (n := nd) (by rw [holdsB, agreesB, allB_true (fun j hj => hE.out j (by omega))]) HW.out

end Go.Proofs.Ytdgncnhmgbmpjaa
