/- Walks of the functions of package cell that read lists: what each call returns. -/
import Derived.Test.YtdgncnhmgbmpjaaProg
import Derived.Test.YtdgncnhmgbmpjaaLib
import Derived.Shelf.Abstract
namespace Go.Proofs.Ytdgncnhmgbmpjaa
open Go.RowKit Go.Shelf
set_option linter.unusedVariables false

set_option maxHeartbeats 400000 in
theorem within_c (n lo hi : Int) (w : World) :
    Calls Try.prog 48 #[.int .i64 n, .int .i64 lo, .int .i64 hi] w (RP (.bool (decide (lo ≤ n) && decide (n ≤ hi))) w) := by
  by_cases h : lo ≤ n
  · go_enter Try.func48, Try.ntmps48
    go_wp2
    go_ret
    exact RP.bool (by simp [h])
  · go_enter Try.func48, Try.ntmps48
    go_wp2
    go_ret
    exact RP.bool (by simp; omega)

def coversB (s v : Int) : Bool := s == -1 || s == v
set_option maxHeartbeats 400000 in
theorem covers_c (s v : Int) (w : World) :
    Calls Try.prog 47 #[.int .i64 s, .int .i64 v] w (RP (.bool (coversB s v)) w) := by
  by_cases h : s = -1
  · subst h
    go_enter Try.func47, Try.ntmps47
    go_wp2
    go_ret
    exact RP.bool (by simp [coversB])
  · have h1 : (s == -1) = false := by simp [h]
    go_enter Try.func47, Try.ntmps47
    go_wp2
    go_ret
    exact RP.bool (by simp [coversB, h])

def agreesB (h : Int → Int → Bool) (a b : List Int) : Bool := allB a.length fun i => h (a[i]?.getD 0) (b[i]?.getD 0)
set_option maxHeartbeats 400000 in
theorem agrees_c (va vb : Value) (a b : List Int) (g : Nat) (lb : Array Value) (h : Int → Int → Bool) (w : World) (eg : Enters Try.prog g)
    (hg : ∀ x y, Calls Try.prog g (#[.int .i64 x, .int .i64 y] ++ lb) w (RP (.bool (h x y)) w)) (ha : Ints w va a) (hb : Ints w vb b) (hl : a.length ≤ b.length) :
    Calls Try.prog 46 #[va, vb, .func (.func g) #[] lb] w (RP (.bool (agreesB h a b)) w) := by
  obtain ⟨aa, ca, rfl, hla, hma, Ha⟩ := ha.open_
  obtain ⟨ab, cb, rfl, hlb, hmb, Hb⟩ := hb.open_
  clear ha hb
  unfold Enters at eg
  have Hg := Lib.hid hg; clear hg
  go_enter Try.func46, Try.ntmps46
  go_wp2_with fail
  go_loopg [11] a.length (fun m i wr => ∃ k : Nat, k ≤ a.length ∧ a.length ≤ k + m ∧ i = .int .i64 k ∧ w = wr ∧ Hid (∀ j, j < k → (h (a[j]?.getD 0) (b[j]?.getD 0)) = true))
  case atStart => exact ⟨0, by omega, by omega, rfl, rfl, fun j hj => by omega⟩
  case round =>
    obtain ⟨k, hk, hk2, rfl, rfl, hE⟩ := hrel
    by_cases hlt : k < a.length
    · obtain ⟨ba, oa, rfl, hc1⟩ := Ha.out k hlt
      obtain ⟨bb, ob, rfl, hc2⟩ := Hb.out k (by omega)
      generalize hx : a[k]?.getD 0 = x at *
      generalize hy : b[k]?.getD 0 = y at *
      have Hx := Lib.hid hx; clear hx
      have Hy := Lib.hid hy; clear hy
      cases hxy : h x y
      · have HX := Lib.hid hxy; clear hxy
        go_wp2_with (go_at_fn g; refine (Hg.out x y).mono ?_; rw [HX.out]; rintro e w' ⟨rfl, rfl⟩)
        go_ret
        exact RP.bool (by rw [agreesB, allB_false hlt (by rw [Hx.out, Hy.out]; exact HX.out)])
      · have HX := Lib.hid hxy; clear hxy
        go_wp2_with (go_at_fn g; refine (Hg.out x y).mono ?_; rw [HX.out]; rintro e w' ⟨rfl, rfl⟩)
        go_roundg (gk-1)
        case measure => omega
        case rel => exact ⟨k+1, by omega, by omega, by go_num, rfl, range_step hE.out (by rw [Hx.out, Hy.out]; exact HX.out)⟩
    · go_wp2_with fail
      go_ret
      exact RP.bool (by rw [agreesB, allB_true (fun j hj => hE.out j (by omega))])
end Go.Proofs.Ytdgncnhmgbmpjaa
