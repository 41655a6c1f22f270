/- Walks: whether two paradigms have the same forms. -/
import Derived.Test.YtdgncnhmgbmpjaaRefE
namespace Go.Proofs.Ytdgncnhmgbmpjaa
open Go.RowKit Go.Shelf
set_option linter.unusedVariables false

set_option maxHeartbeats 400000 in
theorem equalInts_c (va vb : Value) (a b : List Int) (w : World) (ha : Ints w va a) (hb : Ints w vb b) :
    Calls Try.prog 28 #[va, vb] w (RQ (sameIntsB a b) w) := by
  obtain ⟨aa, ca, rfl, hla, hma, Hca⟩ := ha.open_
  obtain ⟨ab, cb, rfl, hlb, hmb, Hcb⟩ := hb.open_
  clear ha hb
  by_cases hl : a.length = b.length
  · have H1 : ((a.length : Int) != (b.length : Int)) = false := by simp [hl]
    have hl1 : b.length ≤ a.length := by omega
    have hl2 : a.length ≤ b.length := by omega
    have HL := Lib.hid hl; clear hl
    go_enter Try.func28, Try.ntmps28
    go_wp2_with fail
    go_loopg [13] a.length (fun m i wr => ∃ k : Nat, k ≤ a.length ∧ a.length ≤ k + m ∧ i = .int .i64 k ∧ (∃ n, wr = w.drewN n) ∧ Hid (∀ j, j < k → (a[j]?.getD 0 == b[j]?.getD 0) = true))
    case atStart => exact ⟨0, by omega, by omega, rfl, ⟨0, rfl⟩, fun j hj => by omega⟩
    case round =>
      obtain ⟨k, hk, hk2, rfl, ⟨nd, hwr⟩, hE⟩ := hrel
      have hwx : Ext w wr := by rw [hwr]; exact Ext.drewN _ _
      have HW := Lib.hid hwr; clear hwr
      by_cases hlt : k < a.length
      · obtain ⟨ba, oa, rfl, hc1⟩ := Hca.out k hlt
        obtain ⟨bb, ob, rfl, hc2⟩ := Hcb.out k (by omega)
        replace hc1 := hwx.keep hc1
        replace hc2 := hwx.keep hc2
        generalize hx : a[k]?.getD 0 = x at *
        generalize hy : b[k]?.getD 0 = y at *
        have Hx := Lib.hid hx; have Hy := Lib.hid hy; clear hx hy
        by_cases hxy : x = y
        · subst hxy
          have hn : (x != x) = false := by simp
          go_wp2_with fail
          go_quiet (fail)
          go_wp2_with fail
          go_roundg (gk-1)
          case measure => omega
          case rel => exact ⟨k+1, by omega, by omega, by go_num, ⟨_, by rw [HW.out, World.drewN_drewN]⟩, range_step hE.out (by rw [Hx.out, Hy.out]; simp)⟩
        · have hn : (x != y) = true := by simp [hxy]
          have HX := Lib.hid hxy; clear hxy
          go_wp2_with fail
          go_quiet (fail)
          go_wp2_with fail
          go_ret
          exact RQ.mkW (n := nd) (by rw [sameIntsB, allB_false hlt (by rw [Hx.out, Hy.out]; simpa using HX.out)]; simp) HW.out _
      · go_wp2_with fail
        go_ret
        exact RQ.mkV (n := nd) (by rw [sameIntsB, allB_true (fun j hj => hE.out j (by omega))]; simp [HL.out]) HW.out
  · have H1 : ((a.length : Int) != (b.length : Int)) = true := by simp; omega
    have HL := Lib.hid hl; clear hl
    go_enter Try.func28, Try.ntmps28
    go_wp2_with fail
    go_ret
    exact RQ.mk0 (by have := HL.out; simp [sameIntsB, this])

def sameK (sizes : List Int) (es : List Ent) (ss : List Int) (fs : List Ent) : Int := if validI sizes es = 0 then (if validI ss fs = 0 then (if sameIntsB sizes ss then 0 else 9) else validI ss fs) else validI sizes es
def sameV (sizes : List Int) (es : List Ent) (ss : List Int) (fs : List Ent) : Bool := (decide (validI sizes es = 0) && decide (validI ss fs = 0) && sameIntsB sizes ss) && sameIntsB (fillL sizes es) (fillL ss fs)

end Go.Proofs.Ytdgncnhmgbmpjaa
