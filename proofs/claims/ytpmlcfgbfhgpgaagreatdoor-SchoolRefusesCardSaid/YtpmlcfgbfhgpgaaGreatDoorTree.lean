/- Regions that draw their order: a tree of turns: look (reads, in every world of a class), one (alone ready), two (two that are ready together, each with its own way on). Over any program. -/
import Derived.Test.YtpmlcfgbfhgpgaaGreatDoorPeek
namespace Go.Proofs.YtpmlcfgbfhgpgaaGreatDoor
open Go.RowKit
set_option linter.unusedVariables false
inductive Tree where
 | done
 | look (k : Nat) (t : Tree)
 | one (k : Nat) (t : Tree)
 | two (i : Nat) (t : Tree) (j : Nat) (s : Tree)
def Tree.turns : Tree → Nat
 | .done => 0
 | .look _ t => t.turns + 1
 | .one _ t => t.turns + 1
 | .two _ t _ _ => t.turns + 1
section
variable {P : Program} {ops : Array Oper} {md : Region.Mode}
end
end Go.Proofs.YtpmlcfgbfhgpgaaGreatDoor
