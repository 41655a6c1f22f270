/- Regions that draw their order: trees of turns with three ready at once. Appends that tell the block that was written. -/
import Derived.Test.YtpmlcfgbfhgpgaaGreatDoorTreeR
import Derived.Test.YtpmlcfgbfhgpgaaGreatDoorLaw9I
namespace Go.Proofs.YtpmlcfgbfhgpgaaGreatDoor
open Go.RowKit Go.Shelf
set_option linter.unusedVariables false
inductive Tre where
  | done
  | look (k : Nat) (t : Tre)
  | one (k : Nat) (t : Tre)
  | two (i : Nat) (t : Tre) (j : Nat) (s : Tre)
  | three (i : Nat) (t : Tre) (j : Nat) (s : Tre) (k : Nat) (r : Tre)
def Tre.turns : Tre → Nat
  | .done => 0
  | .look _ t => t.turns + 1
  | .one _ t => t.turns + 1
  | .two _ t _ _ => t.turns + 1
  | .three _ t _ _ _ _ => t.turns + 1
section
variable {P : Program} {ops : Array Oper} {md : Region.Mode}
end
end Go.Proofs.YtpmlcfgbfhgpgaaGreatDoor
