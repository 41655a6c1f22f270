/- Facts about the whole program, for all rows of this seat. -/
import Derived.Test.YtpmlcfgbfhgpgaaGreatDoorRows
import Derived.JoinedOf
import Derived.Stop.Joined
import Derived.SevenTiedPlain
namespace Go.Proofs.YtpmlcfgbfhgpgaaGreatDoor.fact9
open Go
theorem own : ownKnob Tryz.prog.godebug = none := by kernel_rfl
theorem laidOut : laidOutB Tryz.prog = true := by kernel_rfl
theorem g1 : Tryz.prog.liftsFinal = Rows.schoolUndoesRow.lifted := by kernel_rfl
theorem g2 : Tryz.prog.mayEnter = true := by kernel_rfl
theorem g7 : mapsRowed Tryz.prog = true := by kernel_rfl
theorem g8 : Tryz.prog.stops = [] := by kernel_rfl
theorem g9 : Tryz.prog.stopKnobs = [] := by kernel_rfl
theorem g10 : Tryz.prog.plainKeys = Rows.schoolUndoesRow.plainKeys := by kernel_rfl
theorem g11 : Tryz.prog.stopsHeard = true := by kernel_rfl
theorem g12 : Tryz.prog.make = some Rows.schoolUndoesRow.make := by kernel_rfl
theorem looks9 : Tryz.prog.looks [] = true := by kernel_rfl
theorem main9 : Tryz.pinned.checked.prog.mainIs = some (true, "7401afb06fc61065f1e92cf208d0acc128d977d6ad779937a32985a6dbe8fdf2".toList) := by kernel_rfl
end Go.Proofs.YtpmlcfgbfhgpgaaGreatDoor.fact9
