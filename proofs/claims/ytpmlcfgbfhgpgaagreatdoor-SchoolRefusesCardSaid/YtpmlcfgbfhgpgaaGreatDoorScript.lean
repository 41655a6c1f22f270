/- Regions that draw their order: a script of operations that look (each may be taken at any time from there on) and of such that make memory or call, each of which is the only one ready at its turn; then a tail in the text's order. Over any program. -/
import Derived.Test.YtpmlcfgbfhgpgaaGreatDoorOrd
namespace Go.Proofs.YtpmlcfgbfhgpgaaGreatDoor
open Go.RowKit
set_option linter.unusedVariables false
section
variable {P : Program} {ops : Array Oper} {md : Region.Mode}
inductive Turn where
 | look (k : Nat)
 | go (k : Nat)
end
end Go.Proofs.YtpmlcfgbfhgpgaaGreatDoor
