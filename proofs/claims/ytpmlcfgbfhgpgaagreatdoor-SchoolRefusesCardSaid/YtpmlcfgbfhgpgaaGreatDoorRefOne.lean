/- Walks of the words that compare lists. -/
import Derived.Test.YtpmlcfgbfhgpgaaGreatDoorProg
import Derived.Test.YtpmlcfgbfhgpgaaGreatDoorLib
namespace Go.Proofs.YtpmlcfgbfhgpgaaGreatDoor
open Go.RowKit
set_option linter.unusedVariables false
theorem RQ.mkW {b c : Bool} {w wr : World} {n : Nat} (h : b = c) (hw : wr = w.drewN n) (m : Nat) : RQ c w (.returned (.bool b)) (wr.drewN m) := ⟨by rw [h], n + m, by rw [hw, World.drewN_drewN]⟩
theorem RQ.mkV {b c : Bool} {w wr : World} {n : Nat} (h : b = c) (hw : wr = w.drewN n) : RQ c w (.returned (.bool b)) wr := ⟨by rw [h], n, hw⟩
def sameIntsB (a b : List Int) : Bool := a.length == b.length && allB a.length fun i => a[i]?.getD 0 == b[i]?.getD 0
theorem sameIntsB_iff (a b : List Int) : sameIntsB a b = (a == b) := by
 by_cases h : a = b
 ·subst h
  rw [sameIntsB, allB_true (by simp)]; simp
 ·rw [show (a == b) = false by simp [h]]
  unfold sameIntsB
  by_cases hl : a.length = b.length
  ·have : ∃ j, j < a.length ∧ a[j]?.getD 0 ≠ b[j]?.getD 0 := by
    apply Classical.byContradiction
    intro hn
    apply h
    apply List.ext_getElem hl
    intro i h1 h2
    apply Classical.byContradiction
    intro hne
    exact hn ⟨i, h1, by simpa [h1, h2] using hne⟩
   obtain ⟨j, hj, hne⟩ := this
   rw [allB_false hj (by simpa using hne)]; simp
  ·simp [hl]
def rowsB (a b : List (List Int)) : Bool := a.length == b.length && allB a.length fun i => sameIntsB (a[i]?.getD []) (b[i]?.getD [])
theorem rowsB_iff (a b : List (List Int)) : rowsB a b = (a == b) := by
 by_cases h : a = b
 ·subst h
  rw [rowsB, allB_true (fun j _ => by rw [sameIntsB_iff]; simp)]; simp
 ·rw [show (a == b) = false by simp [h]]
  unfold rowsB
  by_cases hl : a.length = b.length
  ·have : ∃ j, j < a.length ∧ a[j]?.getD [] ≠ b[j]?.getD [] := by
    apply Classical.byContradiction
    intro hn
    apply h
    apply List.ext_getElem hl
    intro i h1 h2
    apply Classical.byContradiction
    intro hne
    exact hn ⟨i, h1, by simpa [h1, h2] using hne⟩
   obtain ⟨j, hj, hne⟩ := this
   rw [allB_false hj (by rw [sameIntsB_iff]; simpa using hne)]; simp
  ·simp [hl]
theorem Rows.open_ {w : World} {v : Value} {l : List (List Int)} (h : Rows w v l) :
  ∃ (a : Option Addr) (cap : Nat), v = .slice a l.length cap ∧ l.length ≤ cap ∧ cap ≤ 9223372036854775807 ∧
   Hid (∀ i, i < l.length → ∃ b o, a = some ⟨b, o, none⟩ ∧ ∃ u, w.cell? ⟨b, o + i, none⟩ = some u ∧ Ints w u (l[i]?.getD [])) := h
theorem RP.quiet {P : Program} {f : FuncId} {args : Array Value} {w : World} {n : Nat} {v : Value} (h : Calls P f args (w.drewN n) (RP v (w.drewN n))) :
  Calls P f args (w.drewN n) fun e w'' => e = .returned v ∧ ∃ m, w'' = w.drewN m := h.mono fun _ _ ⟨he, hm⟩ => ⟨he, n, hm.symm⟩
theorem RQ.quiet {P : Program} {f : FuncId} {args : Array Value} {w : World} {n : Nat} {b : Bool} (h : Calls P f args (w.drewN n) (RQ b (w.drewN n))) :
  Calls P f args (w.drewN n) fun e w'' => e = .returned (.bool b) ∧ ∃ m, w'' = w.drewN m := h.mono fun _ _ ⟨he, m, hm⟩ => ⟨he, n + m, by rw [hm, World.drewN_drewN]⟩
end Go.Proofs.YtpmlcfgbfhgpgaaGreatDoor
