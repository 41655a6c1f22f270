/- Regions that draw their order: trees of turns with three ready at once. Appends that tell the block that was written. -/
import Derived.Test.YtpmlcfgbfhgpgaaGreatDoorTreeR
import Derived.Test.YtpmlcfgbfhgpgaaGreatDoorLaw9I
namespace Go.Proofs.YtpmlcfgbfhgpgaaGreatDoor
open Go.RowKit Go.Shelf
set_option linter.unusedVariables false
inductive Tre where
  | done
  | look (k : Nat) (t : Tre)
  | one (k : Nat) (t : Tre)
  | two (i : Nat) (t : Tre) (j : Nat) (s : Tre)
  | three (i : Nat) (t : Tre) (j : Nat) (s : Tre) (k : Nat) (r : Tre)
def Tre.turns : Tre → Nat
  | .done => 0
  | .look _ t => t.turns + 1
  | .one _ t => t.turns + 1
  | .two _ t _ _ => t.turns + 1
  | .three _ t _ _ _ _ => t.turns + 1
section
variable {P : Program} {ops : Array Oper} {md : Region.Mode}
end
theorem ownsRow_kept2 {w w' : World} {B size n : Nat} {e : TypeId} {v : Value} {xs : List Value} {o : Option Nat} (h : w.ownsRow B e size v n xs) (hg : w.grownBy w' o) (hne : ∀ r, v.ownBlock = some r → o ≠ some r) : w'.ownsRow B e size v n xs := by
  obtain ⟨h0, h | ⟨g, cap, cur, h1, h2, h3, h4⟩⟩ := h
  · exact ⟨h0, .inl h⟩
  · refine ⟨h0, .inr ⟨g, cap, cur, h1, h2, ?_, h4⟩⟩
    have hgl : g < w.heap.size := by
      rcases Nat.lt_or_ge g w.heap.size with hl | hl
      · exact hl
      · rw [Array.getElem?_eq_none hl] at h3; cases h3
    rw [hg.block g hgl (fun e => hne g (by rw [h1]; rfl) e.symm)]
    exact h3
theorem Blk.kept2 {w w' : World} {g : Nat} {e : TypeId} {l : List Value} {o : Option Nat} (h : Blk w g e l) (hg : w.grownBy w' o) (hne : o ≠ some g) : Blk w' g e l := by
  have hl := h.lt
  unfold Blk at h ⊢
  rw [hg.block g hl (fun e => hne e.symm)]
  exact h
end Go.Proofs.YtpmlcfgbfhgpgaaGreatDoor
