/- Equal states of a school are found equal. -/
import Derived.Test.YtpmlcfgbfhgpgaaGreatDoorLaw9H
namespace Go.Proofs.YtpmlcfgbfhgpgaaGreatDoor
open Go.RowKit Go.Shelf
set_option linter.unusedVariables false
end Go.Proofs.YtpmlcfgbfhgpgaaGreatDoor
