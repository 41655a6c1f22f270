/- learned: the learned rules of a school, and their numbers. -/
import Derived.Test.YtpmlcfgbfhgpgaaGreatDoorJoinB
namespace Go.Proofs.YtpmlcfgbfhgpgaaGreatDoor
open Go.RowKit Go.Shelf
set_option linter.unusedVariables false
end Go.Proofs.YtpmlcfgbfhgpgaaGreatDoor
