/- Walk: Swap of the reference. -/
import Derived.Test.YtejklkhaplkblaaSwap
import Derived.Deep.Cut
namespace Go.Proofs.Ytejklkhaplkblaa
open Go.RowKit Go.Shelf
set_option linter.unusedVariables false

end Go.Proofs.Ytejklkhaplkblaa
