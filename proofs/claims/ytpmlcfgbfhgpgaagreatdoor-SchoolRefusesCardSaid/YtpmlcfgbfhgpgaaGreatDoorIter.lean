/- A range over a function whose iterator writes one row of its own between the rounds: the iterator's contract, the caller's law. Over any program. -/
import Derived.Test.YtpmlcfgbfhgpgaaGreatDoorRegion
import Derived.RangeFuncFrom
import Derived.RangeFuncLeaves
import Derived.Shelf.Abstract
namespace Go.Proofs.YtpmlcfgbfhgpgaaGreatDoor
open Go.RowKit Go.Shelf
set_option linter.unusedVariables false
theorem grownBy_trans_new {a b d : World} {r : Option Nat} {row : Option Nat} (h : a.grownBy b r) (k : b.grownBy d row) (hr : ∀ x, row = some x → a.heap.size ≤ x ∨ r = some x) : a.grownBy d r :=
 ⟨k.os.trans h.os, k.tape.trans h.tape, k.output.trans h.output, Nat.le_trans h.size k.size, fun i hi hne => (k.block i (Nat.lt_of_lt_of_le hi h.size) (fun e => by
  rcases hr i e.symm with h1 | h1
  ·omega
  ·exact hne h1.symm)).trans (h.block i hi hne)⟩
theorem grownBy_of_ext {W W' : World} (h : Ext W W') (row : Option Nat) : W.grownBy W' row := ⟨h.os, h.tape, h.output, h.size, fun k hk _ => h.block k hk⟩
end Go.Proofs.YtpmlcfgbfhgpgaaGreatDoor
