/- Walks of the words that compare lists. -/
import Derived.Test.YtpmlcfgbfhgpgaaGreatDoorProg
import Derived.Test.YtpmlcfgbfhgpgaaGreatDoorLib
namespace Go.Proofs.YtpmlcfgbfhgpgaaGreatDoor
open Go.RowKit
set_option linter.unusedVariables false
theorem RQ.mkW {b c : Bool} {w wr : World} {n : Nat} (h : b = c) (hw : wr = w.drewN n) (m : Nat) : RQ c w (.returned (.bool b)) (wr.drewN m) := ⟨by rw [h], n + m, by rw [hw, World.drewN_drewN]⟩
theorem RQ.mkV {b c : Bool} {w wr : World} {n : Nat} (h : b = c) (hw : wr = w.drewN n) : RQ c w (.returned (.bool b)) wr := ⟨by rw [h], n, hw⟩
def sameIntsB (a b : List Int) : Bool := a.length == b.length && allB a.length fun i => a[i]?.getD 0 == b[i]?.getD 0
theorem sameIntsB_iff (a b : List Int) : sameIntsB a b = (a == b) := by
  by_cases h : a = b
  · subst h
    rw [sameIntsB, allB_true (by simp)]; simp
  · rw [show (a == b) = false by simp [h]]
    unfold sameIntsB
    by_cases hl : a.length = b.length
    · have : ∃ j, j < a.length ∧ a[j]?.getD 0 ≠ b[j]?.getD 0 := by
        apply Classical.byContradiction
        intro hn
        apply h
        apply List.ext_getElem hl
        intro i h1 h2
        apply Classical.byContradiction
        intro hne
        exact hn ⟨i, h1, by simpa [h1, h2] using hne⟩
      obtain ⟨j, hj, hne⟩ := this
      rw [allB_false hj (by simpa using hne)]; simp
    · simp [hl]
set_option maxHeartbeats 400000 in
theorem sameInts_c (va vb : Value) (a b : List Int) (w : World) (ha : Ints w va a) (hb : Ints w vb b) :
    Calls Tryz.prog 96 #[va, vb] w (RQ (sameIntsB a b) w) := by
  obtain ⟨aa, ca, rfl, hla, hma, Hca⟩ := ha.open_
  obtain ⟨ab, cb, rfl, hlb, hmb, Hcb⟩ := hb.open_
  clear ha hb
  by_cases hl : a.length = b.length
  · have H1 : ((a.length : Int) != (b.length : Int)) = false := by simp [hl]
    have hl1 : b.length ≤ a.length := by omega
    have hl2 : a.length ≤ b.length := by omega
    have HL := Lib.hid hl; clear hl
    go_enter Tryz.func96, Tryz.ntmps96
    go_wp2_with fail
    go_loopg [5] a.length (fun m i wr => ∃ k : Nat, k ≤ a.length ∧ a.length ≤ k + m ∧ i = .int .i64 k ∧ (∃ n, wr = w.drewN n) ∧ Hid (∀ j, j < k → (a[j]?.getD 0 == b[j]?.getD 0) = true))
    case atStart => exact ⟨0, by omega, by omega, rfl, ⟨0, rfl⟩, fun j hj => by omega⟩
    case round =>
      obtain ⟨k, hk, hk2, rfl, ⟨nd, hwr⟩, hE⟩ := hrel
      have hwx : Ext w wr := by rw [hwr]; exact Ext.drewN _ _
      have HW := Lib.hid hwr; clear hwr
      by_cases hlt : k < a.length
      · obtain ⟨ba, oa, rfl, hc1⟩ := Hca.out k hlt
        obtain ⟨bb, ob, rfl, hc2⟩ := Hcb.out k (by omega)
        replace hc1 := hwx.keep hc1
        replace hc2 := hwx.keep hc2
        generalize hx : a[k]?.getD 0 = x at *
        generalize hy : b[k]?.getD 0 = y at *
        have Hx := Lib.hid hx; have Hy := Lib.hid hy; clear hx hy
        by_cases hxy : x = y
        · subst hxy
          have hn : (x != x) = false := by simp
          go_wp2_with fail
          go_quiet (fail)
          go_wp2_with fail
          go_roundg (gk-1)
          case measure => omega
          case rel => exact ⟨k+1, by omega, by omega, by go_num, ⟨_, by rw [HW.out, World.drewN_drewN]⟩, range_step hE.out (by rw [Hx.out, Hy.out]; simp)⟩
        · have hn : (x != y) = true := by simp [hxy]
          have HX := Lib.hid hxy; clear hxy
          go_wp2_with fail
          go_quiet (fail)
          go_wp2_with fail
          go_ret
          exact RQ.mkW (n := nd) (by rw [sameIntsB, allB_false hlt (by rw [Hx.out, Hy.out]; simpa using HX.out)]; simp) HW.out _
      · go_wp2_with fail
        go_ret
        exact RQ.mkV (n := nd) (by rw [sameIntsB, allB_true (fun j hj => hE.out j (by omega))]; simp [HL.out]) HW.out
  · have H1 : ((a.length : Int) != (b.length : Int)) = true := by simp; omega
    have HL := Lib.hid hl; clear hl
    go_enter Tryz.func96, Tryz.ntmps96
    go_wp2_with fail
    go_ret
    exact RQ.mk0 (by have := HL.out; simp [sameIntsB, this])
def rowsB (a b : List (List Int)) : Bool := a.length == b.length && allB a.length fun i => sameIntsB (a[i]?.getD []) (b[i]?.getD [])
theorem rowsB_iff (a b : List (List Int)) : rowsB a b = (a == b) := by
  by_cases h : a = b
  · subst h
    rw [rowsB, allB_true (fun j _ => by rw [sameIntsB_iff]; simp)]; simp
  · rw [show (a == b) = false by simp [h]]
    unfold rowsB
    by_cases hl : a.length = b.length
    · have : ∃ j, j < a.length ∧ a[j]?.getD [] ≠ b[j]?.getD [] := by
        apply Classical.byContradiction
        intro hn
        apply h
        apply List.ext_getElem hl
        intro i h1 h2
        apply Classical.byContradiction
        intro hne
        exact hn ⟨i, h1, by simpa [h1, h2] using hne⟩
      obtain ⟨j, hj, hne⟩ := this
      rw [allB_false hj (by rw [sameIntsB_iff]; simpa using hne)]; simp
    · simp [hl]
theorem Rows.open_ {w : World} {v : Value} {l : List (List Int)} (h : Rows w v l) :
    ∃ (a : Option Addr) (cap : Nat), v = .slice a l.length cap ∧ l.length ≤ cap ∧ cap ≤ 9223372036854775807 ∧
      Hid (∀ i, i < l.length → ∃ b o, a = some ⟨b, o, none⟩ ∧ ∃ u, w.cell? ⟨b, o + i, none⟩ = some u ∧ Ints w u (l[i]?.getD [])) := h
theorem RP.quiet {P : Program} {f : FuncId} {args : Array Value} {w : World} {n : Nat} {v : Value} (h : Calls P f args (w.drewN n) (RP v (w.drewN n))) :
    Calls P f args (w.drewN n) fun e w'' => e = .returned v ∧ ∃ m, w'' = w.drewN m := h.mono fun _ _ ⟨he, hm⟩ => ⟨he, n, hm.symm⟩
theorem RQ.quiet {P : Program} {f : FuncId} {args : Array Value} {w : World} {n : Nat} {b : Bool} (h : Calls P f args (w.drewN n) (RQ b (w.drewN n))) :
    Calls P f args (w.drewN n) fun e w'' => e = .returned (.bool b) ∧ ∃ m, w'' = w.drewN m := h.mono fun _ _ ⟨he, m, hm⟩ => ⟨he, n + m, by rw [hm, World.drewN_drewN]⟩
set_option maxHeartbeats 400000 in
theorem sameLists_c (va vb : Value) (a b : List (List Int)) (w : World) (ha : Rows w va a) (hb : Rows w vb b) :
    Calls Tryz.prog 97 #[va, vb] w (RQ (rowsB a b) w) := by
  obtain ⟨aa, ca, rfl, hla, hma, Hca⟩ := ha.open_
  obtain ⟨ab, cb, rfl, hlb, hmb, Hcb⟩ := hb.open_
  clear ha hb
  by_cases hl : a.length = b.length
  · have H1 : ((a.length : Int) != (b.length : Int)) = false := by simp [hl]
    have hl1 : b.length ≤ a.length := by omega
    have hl2 : a.length ≤ b.length := by omega
    have HL := Lib.hid hl; clear hl
    go_enter Tryz.func97, Tryz.ntmps97
    go_wp2_with fail
    go_loopg [5] a.length (fun m i wr => ∃ k : Nat, k ≤ a.length ∧ a.length ≤ k + m ∧ i = .int .i64 k ∧ (∃ n, wr = w.drewN n) ∧ Hid (∀ j, j < k → sameIntsB (a[j]?.getD []) (b[j]?.getD []) = true))
    case atStart => exact ⟨0, by omega, by omega, rfl, ⟨0, rfl⟩, fun j hj => by omega⟩
    case round =>
      obtain ⟨k, hk, hk2, rfl, ⟨nd, hwr⟩, hE⟩ := hrel
      have hwx : Ext w wr := by rw [hwr]; exact Ext.drewN _ _
      have HW := Lib.hid hwr; clear hwr
      by_cases hlt : k < a.length
      · obtain ⟨ba, oa, rfl, u, hc1, hi1⟩ := Hca.out k hlt
        obtain ⟨bb, ob, rfl, v, hc2, hi2⟩ := Hcb.out k (by omega)
        replace hc1 := hwx.keep hc1
        replace hc2 := hwx.keep hc2
        have HS := Lib.hid (fun W (hx : Ext w W) => sameInts_c u v _ _ W (hi1.ext hx) (hi2.ext hx))
        clear hi1 hi2
        cases hs : sameIntsB (a[k]?.getD []) (b[k]?.getD [])
        · rw [hs] at HS
          have HX := Lib.hid hs; clear hs
          go_wp2_with fail
          go_quiet ((go_at_call 96; exact RQ.quiet (HS.out _ (hwx.trans (Ext.drewN _ _)))))
          go_wp2_with fail
          go_ret
          exact RQ.mkW (n := nd) (by rw [rowsB, allB_false hlt HX.out]; simp) HW.out _
        · rw [hs] at HS
          have HX := Lib.hid hs; clear hs
          go_wp2_with fail
          go_quiet ((go_at_call 96; exact RQ.quiet (HS.out _ (hwx.trans (Ext.drewN _ _)))))
          go_wp2_with fail
          go_roundg (gk-1)
          case measure => omega
          case rel => exact ⟨k+1, by omega, by omega, by go_num, ⟨_, by rw [HW.out, World.drewN_drewN]⟩, range_step hE.out HX.out⟩
      · go_wp2_with fail
        go_ret
        exact RQ.mkV (n := nd) (by rw [rowsB, allB_true (fun j hj => hE.out j (by omega))]; simp [HL.out]) HW.out
  · have H1 : ((a.length : Int) != (b.length : Int)) = true := by simp; omega
    have HL := Lib.hid hl; clear hl
    go_enter Tryz.func97, Tryz.ntmps97
    go_wp2_with fail
    go_ret
    exact RQ.mk0 (by have := HL.out; simp [rowsB, this])
end Go.Proofs.YtpmlcfgbfhgpgaaGreatDoor
